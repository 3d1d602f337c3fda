/- THE EVALUATOR, part 13 of 13: EvSame8 EvSame9 EvSameA -/
import Derived.Test.YtiofeejnmnfbiaaGreatDoorEv12
set_option linter.unusedVariables false
set_option linter.unusedSectionVars false
set_option linter.unusedSimpArgs false
namespace Go.Ev
set_option linter.unusedVariables false
set_option linter.unusedSectionVars false
set_option linter.unusedSimpArgs false
noncomputable section
/-! ## what the arguments read as -/
def tdF (E : Env) (go : TypeId → Option (List Td)) : Nat → List (TypeId × Nat) → Option (List Td)
  | _, [] => some []
  | at_, (t, o) :: fs => bif Nat.beq o at_ then (match E.size t, go t with
      | some n, some l => bif Nat.beq l.length n then (match tdF E go (at_ + n) fs with
          | some r => some (l ++ r)
          | none => none) else none
      | _, _ => none) else none
def tdT (E : Env) : Nat → TypeId → Option (List Td)
  | 0, _ => none
  | n + 1, t =>
    match E.und t with
    | some .bool => some [.b]
    | some (.int .i64) => some [.i .i64]
    | some (.int .u32) => some [.i .u32]
    | some (.slice e) => (match E.size e, tdT E n e with
        | some (k + 1), some l => bif Nat.beq l.length (k + 1) then some [.l l] else none
        | _, _ => none)
    | some (.struct fs) => (match E.size t, tdF E (tdT E n) 0 (fs.toList.map fun f => (f.type, f.offset)) with
        | some n, some l => bif Nat.beq l.length n then some l else none
        | _, _ => none)
    | _ => none
theorem RdR.append {W : World} : ∀ {t1 t2 : List Td} {d1 d2 : List Dc} {v1 v2 : List Value}, RdR W t1 d1 v1 → RdR W t2 d2 v2 → RdR W (t1 ++ t2) (d1 ++ d2) (v1 ++ v2)
  | [], _, _, _, _, _, h, k => by simp only [RdR] at h; obtain ⟨rfl, rfl⟩ := h; exact k
  | t :: t1, _, _, _, _, _, h, k => by
    simp only [RdR] at h
    obtain ⟨d, v, ds', vs', rfl, rfl, h3, h4⟩ := h
    simp only [List.cons_append, RdR]
    exact ⟨d, v, _, _, rfl, rfl, h3, h4.append k⟩
theorem rows_rd {W : World} {ts : List Td} : ∀ {rows : List (List Value)}, (∀ row ∈ rows, ∃ ds, RdR W ts ds row) → ∃ drs : List (List Dc), drs.length = rows.length ∧ ∀ (i : Nat) d v, drs[i]? = some d → rows[i]? = some v → RdR W ts d v
  | [], _ => ⟨[], rfl, fun i d v h => by simp at h⟩
  | r :: rows, h => by
    obtain ⟨ds, h1⟩ := h r (List.mem_cons_self ..)
    obtain ⟨drs, h2, h3⟩ := rows_rd fun row hr => h row (List.mem_cons_of_mem _ hr)
    refine ⟨ds :: drs, by simp [h2], fun i d v e1 e2 => ?_⟩
    cases i with
    | zero => simp at e1 e2; subst e1 e2; exact h1
    | succ i => exact h3 i d v (by simpa using e1) (by simpa using e2)
section
variable {E : Env} {P : Program} (hE : EnvOk E P) {w : World} {H : Type} {enc : TypeId × Value → H}
include hE
theorem tdF_sound {fuel : Nat} {go : TypeId → Option (List Td)} {cs : List Value} (ih : ∀ t c x l, DataW.trod enc P w 0 (fun _ => true) true fuel t c = some x → go t = some l → ∃ ds, RdR w l ds c) {α : Type} (τ : α → TypeId × Nat) :
    ∀ (as : List α) (at_ : Nat) (xs : List (DataW H × List MemPlace)) (l : List Td),
      as.mapM (fun a => DataW.trod enc P w 0 (fun _ => true) true fuel (τ a).1 ((cs.drop (τ a).2).take (P.cellsOf (τ a).1))) = some xs → tdF E go at_ (as.map τ) = some l → ∃ ds, RdR w l ds ((cs.drop at_).take l.length)
  | [], at_, xs, l, h, hl => by
    simp only [List.map_nil, tdF] at hl
    cases hl
    exact ⟨[], by simp [RdR]⟩
  | a :: as, at_, xs, l, h, hl => by
    obtain ⟨x, r, hx, hr, rfl⟩ := @mapM_cons_some dV dF _ _ _ _ _ _ h
    rcases ht : τ a with ⟨t, o⟩
    simp only [List.map_cons, ht] at hl
    rw [ht] at hx
    replace hl : (bif Nat.beq o at_ then (match E.size t, go t with
          | some n, some l => bif Nat.beq l.length n then (match tdF E go (at_ + n) (as.map τ) with
              | some r => some (l ++ r)
              | none => none) else none
          | _, _ => none) else none) = some l := hl
    cases hb : Nat.beq o at_ with
    | false => rw [hb] at hl; cases hl
    | true =>
      rw [hb] at hl
      have ho : o = at_ := Nat.eq_of_beq_eq_true hb
      subst ho
      simp only [cond_true] at hl
      split at hl
      · rename_i n l1 hn hg
        cases hb2 : Nat.beq l1.length n with
        | false => rw [hb2] at hl; cases hl
        | true =>
          rw [hb2] at hl
          have hln : l1.length = n := Nat.eq_of_beq_eq_true hb2
          simp only [cond_true] at hl
          split at hl
          · rename_i l2 hf
            cases hl
            obtain ⟨d1, i1⟩ := ih _ _ x l1 hx hg
            obtain ⟨d2, i2⟩ := tdF_sound ih τ as (o + n) r l2 hr hf
            rw [@EnvOk.cellsOf dV dF E P hE t _ hn] at i1
            rw [List.length_append, List.take_add, hln, List.drop_drop]
            exact ⟨_, i1.append i2⟩
          · cases hl
      · cases hl
theorem tdT_sound : ∀ (n fuel : Nat) (t : TypeId) (cs : List Value) (x : DataW H × List MemPlace) (l : List Td), DataW.trod enc P w 0 (fun _ => true) true fuel t cs = some x → tdT E n t = some l → ∃ ds, RdR w l ds cs
  | 0, _, _, _, _, _, _, h => by simp [tdT] at h
  | n + 1, fuel, t, cs, x, l, h, hl => by
    have und : ∀ {d}, E.und t = some d → P.underlying t = some d := fun hu => @EnvOk.und dV dF E P hE t _ hu
    unfold tdT at hl
    split at hl
    · rename_i hu
      cases hl
      obtain ⟨b', rfl, _⟩ := DataW.trod_bool (und hu) h
      exact ⟨[.b b'], by simp only [RdR, RdC]; exact ⟨_, _, [], [], rfl, rfl, ⟨_, rfl, rfl⟩, rfl, rfl⟩⟩
    · rename_i hu
      cases hl
      obtain ⟨m, rfl, _, hw⟩ := DataW.trod_int (und hu) h
      simp only [Lit.wf, Bool.and_eq_true, decide_eq_true_eq] at hw
      exact ⟨[.i m], by simp only [RdR, RdC]; exact ⟨_, _, [], [], rfl, rfl, ⟨_, rfl, rfl, hw.1, hw.2, rfl⟩, rfl, rfl⟩⟩
    · rename_i hu
      cases hl
      obtain ⟨m, rfl, _, hw⟩ := DataW.trod_int (und hu) h
      simp only [Lit.wf, Bool.and_eq_true, decide_eq_true_eq] at hw
      exact ⟨[.i m], by simp only [RdR, RdC]; exact ⟨_, _, [], [], rfl, rfl, ⟨_, rfl, rfl, hw.1, hw.2, rfl⟩, rfl, rfl⟩⟩
    · rename_i e hu
      split at hl
      · rename_i k l' hk hf
        cases hb : Nat.beq l'.length (k + 1) with
        | false => rw [hb] at hl; cases hl
        | true =>
          rw [hb] at hl
          have hln : l'.length = k + 1 := Nat.eq_of_beq_eq_true hb
          cases hl
          obtain ⟨v, rows, rfl, h1, h2, h3⟩ := slice_cells hE hu hk h
          obtain ⟨drs, h4, h5⟩ := rows_rd (W := w) (ts := l') fun row hr => by
            obtain ⟨fuel', x', hx⟩ := h3 row hr
            exact tdT_sound n fuel' e row x' l' hx hf
          have hm : maxLen = 9223372036854775807 := by decide
          refine ⟨[.l drs], ?_⟩
          simp only [RdR, RdC]
          exact ⟨_, _, [], [], rfl, rfl, ⟨drs, rows, rfl, by rw [hln]; exact h1, by omega, h4, h5⟩, rfl, rfl⟩
      · cases hl
    · rename_i fs hu
      cases fuel with
      | zero => simp [DataW.trod] at h
      | succ fuel =>
      obtain ⟨hlen, xs, hp⟩ := @trod_structG dV dF P w H enc 0 (fun _ => true) true fuel t fs cs x (und hu) h
      split at hl
      · rename_i k l' hk hf
        cases hb : Nat.beq l'.length k with
        | false => rw [hb] at hl; cases hl
        | true =>
          rw [hb] at hl
          have hln : l'.length = k := Nat.eq_of_beq_eq_true hb
          obtain rfl : l' = l := Option.some.inj hl
          obtain ⟨ds, this⟩ := tdF_sound hE (cs := cs) (fun t c x l h1 h2 => tdT_sound n fuel t c x l h1 h2) (fun f : Field => (f.type, f.offset)) _ 0 xs l' hp hf
          rw [@EnvOk.cellsOf dV dF E P hE t _ hk] at hlen
          rw [List.drop_zero, hln, ← hlen, List.take_length] at this
          exact ⟨ds, this⟩
      · cases hl
    · cases hl
theorem arg_rd {r : Reach} {b0 n : Nat} {t : TypeId} {v : Value} {d : DataW H} {ps : List MemPlace} {l : List Td} (ha : (match E.und t with | some td => isAggT td | none => false) = true)
    (hok : Value.okWide P w r b0 t v) (h : DataW.Trod enc P w 0 (fun _ => true) true t v d ps) (hl : tdT E n t = some l) : ∃ cs ds, v = .agg cs ∧ RdR w l ds cs.toList := by
  obtain ⟨fuel, hf⟩ := h
  obtain ⟨td, hu, ha⟩ : ∃ td, E.und t = some td ∧ isAggT td = true := by
    split at ha
    · rename_i td hu; exact ⟨td, hu, ha⟩
    · cases ha
  have hv : ∃ cs, v = .agg cs := by
    unfold Value.okWide at hok
    rw [@EnvOk.und dV dF E P hE t _ hu] at hok
    cases td <;> first | (obtain ⟨cs, e, _⟩ := hok; exact ⟨cs, e⟩) | cases ha
  obtain ⟨cs, rfl⟩ := hv
  obtain ⟨ds, h⟩ := tdT_sound hE n fuel t _ _ l hf hl
  exact ⟨cs, ds, rfl, h⟩
end
end
end Go.Ev

namespace Go.Ev
set_option linter.unusedVariables false
set_option linter.unusedSectionVars false
set_option linter.unusedSimpArgs false
noncomputable section
/-! ## a call that hands two lists on; states at the heads of loops -/
def wrapB (E : Env) (g : Nat) (ex : List AV) (b : Bool) : Bool :=
  @runB (fkE [] [.mk g (.nv (Key.ofNat 30) true :: .nv (Key.ofNat 50) true :: ex) (.bool b) []] b) E (.nv (Key.ofNat 30) true :: .nv (Key.ofNat 50) true :: ex) hp0 nx0
theorem cmpW_of {E : Env} {P : Program} (hE : EnvOk E P) (hgm : E.gm = 0) (hsum : hasBody E E.sum = false) {g : Nat} {ts : List Td} {ex : List AV} (hex : exOk ex = true) (hg : CmpL P g ts ex) (ht : wrapB E g ex true = true) (hf : wrapB E g ex false = true) : CmpL P E.root ts ex := by
  intro W da db va vb ha hb
  have ra : RdR W [.l ts] [da] [va] := by simp only [RdR]; exact ⟨da, va, [], [], rfl, rfl, ha, rfl, rfl⟩
  have rb : RdR W [.l ts] [db] [vb] := by simp only [RdR]; exact ⟨db, vb, [], [], rfl, rfl, hb, rfl, rfl⟩
  have na := vs_a (ra := []) (rb := []) (i := 0) (db := [db]) (va := [va]) (vb := [vb]) (ea := []) (eb := []) (ua := []) (ub := []) (da := [da]) (by simp)
  have nb := vs_b (ra := []) (rb := []) (i := 0) (da := [da]) (va := [va]) (vb := [vb]) (ea := []) (eb := []) (ua := []) (ub := []) (db := [db]) (by simp)
  generalize hV : VS [] [] 0 [da] [db] [va] [vb] [] [] [] [] = V at na nb
  have fa := @rowA_fx V W [.l ts] [da] [va] ra 30 na
  have fb := @rowA_fx V W [.l ts] [db] [vb] rb 50 nb
  have hok : ∀ c ∈ [Cm.list g 0 ex], c.ok P [.l ts] := fun c hc => by obtain rfl := List.mem_singleton.1 hc; exact ⟨hex, ts, rfl, hg⟩
  have hb0 : (Cm.list g 0 ex).is [da] [db] = eqB da db := by
    show eqB (some da) (some db) = _
    rw [Bool.eq_iff_iff, eqB_iff, eqB_iff, Option.some.injEq]
  have hsm := fun C hW => @smOf_ok V P W [.l ts] [da] [db] [va] [vb] ra rb [Cm.list g 0 ex] hok C hW _ _ fa fb _ (List.mem_cons_self ..) (eqB da db) hb0
  have hrun : wrapB E g ex (eqB da db) = true := by cases eqB da db with | true => exact ht | false => exact hf
  generalize eqB da db = b at *
  letI : Val := V
  letI F : Fk := fkE [] [.mk g (.nv (Key.ofNat 30) true :: .nv (Key.ofNat 50) true :: ex) (.bool b) []] b
  have hF : FkOk := ⟨fun x hx => (by cases hx), fun x hx => (by cases hx), fun x hx => (by cases hx)⟩
  obtain ⟨c, h1, h2⟩ := runB_some hrun
  refine callsB (μ := mu0) hE (vs := .nv (Key.ofNat 30) true :: .nv (Key.ofNat 50) true :: ex) ?_ (hr_0 hF _ _) (gr_0 hgm _) ⟨c, h1, fun cs' m hs => turns_done hE (no_sum hsum fun s hs => hsm _ rfl s hs) h2 hs⟩
  have e1 := fa.vrs mu0
  have e2 := fb.vrs mu0
  obtain ⟨v1, r1, q1, k1, _⟩ := e1.cons_inv
  obtain ⟨v2, r2, q2, k2, _⟩ := e2.cons_inv
  cases q1
  cases q2
  exact .cons k1 (.cons k2 ((exOk_fx hex).vrs mu0))
def hdIL (c : Cfg) : Bool := match c with | .mk _ td _ _ _ _ => isIL td
def dfCfg : Cfg := .mk (.mk tm0 .top .top .top) [] (.mk 0 [] .run false none) [] hp0 nx0
def headOf [Fk] (E : Env) (vs : List AV) (h : Hp) : Cfg :=
  match enter E E.root vs false [] h nx0 with
  | .go c => (match turnsC E hdIL 1000 c with
    | some (c1 :: _) => c1
    | _ => dfCfg)
  | _ => dfCfg
def keepTm (tm : Tm) : List Nat → Tm
  | [] => tm0
  | t :: l => setT t (getT t tm) (keepTm tm l)
def setObs (h : Hp) : List (Key × Ob) → Hp
  | [] => h
  | o :: l => hset o.1 o.2 (setObs h l)
def edH (ix : Nat) (keep : List Nat) (obs : List (Key × Ob)) (c : Cfg) : Cfg :=
  match c with
  | .mk (.mk tm _ _ _) td fi cs h nx => .mk (.mk (setT ix (.sx .i64 kLI 0 0 (mxI - 1)) (keepTm tm keep)) .top .top .top) td fi cs (setObs h obs) nx
end
end Go.Ev

namespace Go.Ev
set_option linter.unusedVariables false
set_option linter.unusedSectionVars false
set_option linter.unusedSimpArgs false
noncomputable section
/-! ## a law of two structs: it goes over a field of the first one, then compares both by two calls -/
theorem RdR.set {W : World} : ∀ {ts : List Td} {ds : List Dc} {vs : List Value}, RdR W ts ds vs → ∀ {j : Nat} {t : Td} {d : Dc} {v : Value}, ts[j]? = some t → ds[j]? = some d → RdC W t d v → RdR W ts ds (vs.set j v)
  | [], _, _, _, j, t, d, v, h1, _, _ => by simp at h1
  | t0 :: ts, ds, vs, h, j, t, d, v, h1, h2, h3 => by
    simp only [RdR] at h
    obtain ⟨d0, v0, ds', vs', rfl, rfl, h4, h5⟩ := h
    cases j with
    | zero =>
      simp at h1 h2
      subst h1 h2
      simp only [List.set_cons_zero, RdR]
      exact ⟨_, _, _, _, rfl, rfl, h3, h5⟩
    | succ j =>
      simp only [List.set_cons_succ, RdR]
      exact ⟨_, _, _, _, rfl, rfl, h4, h5.set (by simpa using h1) (by simpa using h2) h3⟩
theorem set_inv [Val] : ∀ {l : List AV} {vs us : List Value} {μ : Mu} {j : Nat} {a : AV}, FxR l vs → j < l.length → VRs μ (l.set j a) us → ∃ u, us = vs.set j u ∧ VR μ a u
  | [], _, _, _, _, _, _, h, _ => by simp at h
  | b :: l, vs, us, μ, j, a, h, hj, k => by
    obtain ⟨v, r, rfl, h1, h2⟩ := h
    cases j with
    | zero =>
      obtain ⟨u, s, rfl, k1, k2⟩ := VRs.cons_inv (show VRs μ (a :: l) us from k)
      exact ⟨u, by rw [h2.uniq k2]; rfl, k1⟩
    | succ j =>
      obtain ⟨u, s, rfl, k1, k2⟩ := VRs.cons_inv (show VRs μ (b :: l.set j a) us from k)
      obtain ⟨x, e, k3⟩ := set_inv h2 (by simpa using hj) k2
      exact ⟨x, by rw [(h1 μ u).1 k1, e]; rfl, k3⟩
def idN : List Td → Nat → List Nn
  | [], _ => []
  | .i k :: ts, n => .mk (Key.ofNat n) (Key.ofNat n) 0 (kmn k) (kmx k) :: idN ts (n + 1)
  | .b :: ts, n => .mk (Key.ofNat n) (Key.ofNat n) 0 0 1 :: idN ts (n + 1)
  | .l _ :: ts, n => idN ts (n + 1)
def idL : List Td → Nat → List (Key × Key)
  | [], _ => []
  | .l _ :: ts, n => (Key.ofNat n, Key.ofNat n) :: idL ts (n + 1)
  | _ :: ts, n => idL ts (n + 1)
theorem idN_ok {v0 v1 : Val} {W : World} : ∀ {ts : List Td} {ds : List Dc} {vs : List Value} {n : Nat}, RdR W ts ds vs → n + ts.length < 32767 → (∀ m, n ≤ m → m < n + ts.length → v1.n (Key.ofNat m) = v0.n (Key.ofNat m)) → @Nms v0 n ds vs → ∀ x ∈ idN ts n, NnOk v0 v1 x
  | [], _, _, _, _, _, _, _, x, hx => by cases hx
  | t :: ts, ds, vs, n, h, hn, he, hm, x, hx => by
    simp only [RdR] at h
    obtain ⟨d, v, ds', vs', rfl, rfl, h3, h4⟩ := h
    simp only [List.length_cons] at hn he
    have rest := fun x hx => idN_ok (n := n + 1) h4 (by omega) (fun m a b => he m (by omega) (by omega)) (@Nms.mk v0 (n + 1) ds' vs' fun j d' v' e1 e2 => by
      have := @Nms.nm v0 n (d :: ds') (v :: vs') hm (j + 1) d' v' (by simpa using e1) (by simpa using e2)
      rwa [show n + (j + 1) = n + 1 + j from by omega] at this) x hx
    have h0 := (@Nms.nm v0 n (d :: ds') (v :: vs') hm 0 d v rfl rfl).1
    have e0 := he n (Nat.le_refl _) (by omega)
    have z := Key.ne_kZ (m := n) (by omega)
    cases t with
    | i k =>
      simp only [RdC] at h3
      obtain ⟨m, rfl, rfl, b1, b2, _⟩ := h3
      rcases List.mem_cons.1 hx with rfl | hx
      · simp only [NnOk]
        rw [@nz_ne v1 _ z, @nz_ne v0 _ z, e0]
        have h0 : v0.n (Key.ofNat n) = m := h0
        rw [h0]
        exact ⟨by omega, b1, b2⟩
      · exact rest x hx
    | b =>
      simp only [RdC] at h3
      obtain ⟨m, rfl, rfl⟩ := h3
      rcases List.mem_cons.1 hx with rfl | hx
      · simp only [NnOk]
        rw [@nz_ne v1 _ z, @nz_ne v0 _ z, e0]
        have h0 : v0.n (Key.ofNat n) = (Dc.b m).num := h0
        rw [h0]
        cases m <;> exact ⟨rfl, by decide, by decide⟩
      · exact rest x hx
    | l ts' => exact rest x hx
theorem idL_ok {v0 v1 : Val} : ∀ {ts : List Td} {n : Nat}, (∀ m, n ≤ m → m < n + ts.length → v1.l (Key.ofNat m) = v0.l (Key.ofNat m)) → ∀ x ∈ idL ts n, v1.l x.1 = v0.l x.2
  | [], _, _, x, hx => by cases hx
  | t :: ts, n, he, x, hx => by
    simp only [List.length_cons] at he
    have rest := fun x hx => idL_ok (ts := ts) (n := n + 1) (fun m a b => he m (by omega) (by omega)) x hx
    cases t with
    | i k => exact rest x hx
    | b => exact rest x hx
    | l ts' =>
      rcases List.mem_cons.1 hx with rfl | hx
      · exact he n (Nat.le_refl _) (by omega)
      · exact rest x hx
def hA (sz : Nat) : Hp := hset kLF (.lst true lstGen sz kLQ []) hp0
def lawA (ts : List Td) (jl sz : Nat) : AV := .agg ((rowA ts 30).set jl (aF sz))
def lawB (ts : List Td) : AV := .agg (rowA ts 50)
def lawS (ts : List Td) (jl sz f g : Nat) (b : Bool) : List Sme :=
  [.mk f [lawA ts jl sz, lawB ts] (.bool b) [(kLF, sz, kLQ)], .mk g [lawA ts jl sz, lawB ts] (.bool b) [(kLF, sz, kLQ)], .mk f [lawA ts jl sz, lawA ts jl sz] (.bool true) [(kLF, sz, kLQ)]]
@[reducible] def fkW (ts tr : List Td) (jl f g : Nat) (rel : List Rl) (rows : List Rf) (b : Bool) : Fk := { rel, rows, us := [], sm := lawS ts jl tr.length f g b, rv := .bool true }
def relW (lo hi : Int) : List Rl := [.mk kZ kLQ 1 mxI, .mk kZ kLI 0 (mxI - 1), .mk kLI kLQ lo hi]
def rowW (tr : List Td) : List Rf := [.mk kLQ kLI 0 (rowA tr 70)]
def sgW (ts : List Td) : Sg := .mk (.mk kLI kLI 1 0 (mxI - 1) :: .mk kLQ kLQ 0 1 mxI :: (idN ts 30 ++ idN ts 50)) ((kLQ, kLQ) :: (idL ts 30 ++ idL ts 50)) [] []
def sgW0 (ts : List Td) : Sg := .mk (.mk kLI kZ 0 0 (mxI - 1) :: .mk kLQ kLQ 0 1 mxI :: (idN ts 30 ++ idN ts 50)) ((kLQ, kLQ) :: (idL ts 30 ++ idL ts 50)) [] []
structure LawOk (E : Env) (ts tr : List Td) (jl f g : Nat) (H : Cfg) (ks : List Key) : Prop where
  cl : gcH ks H.hp = H.hp
  none : ∀ b, @runB (fkW ts tr jl f g [.mk kZ kLQ 0 0] [] b) E [lawA ts jl tr.length, lawB ts] (hA tr.length) nx0 = true
  first : ∃ hd n, ∀ b, @enterT (fkW ts tr jl f g [.mk kZ kLQ 1 mxI] [] b) E hd n (sgW0 ts) ks [] H [lawA ts jl tr.length, lawB ts] (hA tr.length) nx0 = some [headE [] H]
  turn : ∃ hd n, ∀ b, @turnT (fkW ts tr jl f g (relW 2 mxI) (rowW tr) b) E hd n (sgW ts) ks [] H H = some [headE [] H]
  last : ∀ b, @runK (fkW ts tr jl f g (relW 1 1) (rowW tr) b) E H = true
section
variable {W : World} {ts tr : List Td} {jl : Nat} (hjl : ts[jl]? = some (.l tr)) (hl : ts.length ≤ 20) (hlr : tr.length ≤ 20) {da db : List Dc} {va vb : List Value} (ha : RdR W ts da va) (hb : RdR W ts db vb)
  {dra : List (List Dc)} {ra : List (List Value)} (hda : da[jl]? = some (.l dra)) (hlen : dra.length = ra.length) (hmx : ra.length ≤ 9223372036854775807) (hga : ∀ (i : Nat) d v, dra[i]? = some d → ra[i]? = some v → RdR W tr d v)
  {E : Env} {P : Program} (hE : EnvOk E P) (hgm : E.gm = 0) {f g : Nat} (hf : CmpS P f ts) (hg : CmpS P g ts)
  (hone : ∀ w, Ext W.heap.size W w → hasBody E E.sum = true → Calls P E.sum #[] w (fun e w' => e = .returned (.bool true) ∧ Ext w.heap.size w w'))
@[reducible] def VW (ra : List (List Value)) (dra : List (List Dc)) (da db : List Dc) (va vb : List Value) (i : Nat) : Val := VS ra [] i da db va vb (dra.getD i []) [] (ra.getD i []) []
include hjl hl ha hb hda hlen hmx hga hf hg hone in
theorem lawS_ok (i : Nat) {F : Fk} (hF : F.sm = lawS ts jl tr.length f g (eqB da db)) (cs' : List Frame) : @SumOk (VW ra dra da db va vb i) F E P ⟨cs', W⟩ := by
  refine @SumOk.mk (VW ra dra da db va vb i) F E P ⟨cs', W⟩ hone fun s hs => ?_
  rw [hF] at hs
  have na := vs_a (ra := ra) (rb := []) (i := i) (db := db) (va := va) (vb := vb) (ea := dra.getD i []) (eb := []) (ua := ra.getD i []) (ub := []) (da := da) (by rw [ha.len.1]; exact hl)
  have nb := vs_b (ra := ra) (rb := []) (i := i) (da := da) (va := va) (vb := vb) (ea := dra.getD i []) (eb := []) (ua := ra.getD i []) (ub := []) (db := db) (by rw [hb.len.1]; exact hl)
  have fa := @rowA_fx (VW ra dra da db va vb i) W ts da va ha 30 na
  have fb := @rowA_fx (VW ra dra da db va vb i) W ts db vb hb 50 nb
  have lenA : (rowA ts 30).length = ts.length := by
    have := (@FxR.vrs (VW ra dra da db va vb i) _ _ fa (fun _ _ => none))
    rw [@VRs.length (VW ra dra da db va vb i) _ _ _ this, ha.len.2]
  have hj : jl < ts.length := (List.getElem?_eq_some_iff.1 hjl).1
  -- an argument that is the first struct
  have inA : ∀ (w : World) (μ : Mu) (u : Value), Ext W.heap.size W w → @LnOk (VW ra dra da db va vb i) μ w kLF tr.length kLQ → @VR (VW ra dra da db va vb i) μ (lawA ts jl tr.length) u → ∃ x : Array Value, u = .agg x ∧ RdR w ts da x.toList := by
    intro w μ u he hln hu
    simp only [lawA, VR] at hu
    obtain ⟨x, rfl, hx⟩ := hu
    obtain ⟨v, e1, e2⟩ := @set_inv (VW ra dra da db va vb i) _ _ _ _ _ _ fa (by rw [lenA]; exact hj) hx
    have hla : LaR w v tr.length ra := hln _ _ e2
    refine ⟨x, rfl, ?_⟩
    rw [e1]
    refine (RdR.ext he _ _ _ ha).set hjl hda ?_
    simp only [RdC]
    exact ⟨dra, ra, rfl, hla, hmx, hlen, fun i d v h1 h2 => RdR.ext he _ _ _ (hga i d v h1 h2)⟩
  have inB : ∀ (w : World) (μ : Mu) (u : Value), Ext W.heap.size W w → @VR (VW ra dra da db va vb i) μ (lawB ts) u → ∃ x : Array Value, u = .agg x ∧ RdR w ts db x.toList := by
    intro w μ u he hu
    have := (@FxR.agg (VW ra dra da db va vb i) _ _ fb μ u).1 hu
    exact ⟨vb.toArray, this, RdR.ext he _ _ _ (by simpa using hb)⟩
  have two : ∀ (k : Nat) (hk : CmpS P k ts), @SmOk (VW ra dra da db va vb i) P ⟨cs', W⟩ (.mk k [lawA ts jl tr.length, lawB ts] (.bool (eqB da db)) [(kLF, tr.length, kLQ)]) := by
    intro k hk w μ args he hv hnd
    obtain ⟨u1, r1, q1, k1, k2⟩ := @VRs.cons_inv (VW ra dra da db va vb i) _ _ _ _ hv
    obtain ⟨u2, r2, q2, k3, k4⟩ := @VRs.cons_inv (VW ra dra da db va vb i) _ _ _ _ k2
    have q3 := @VRs.nil_inv (VW ra dra da db va vb i) _ _ k4
    obtain ⟨x, rfl, hx⟩ := inA w μ u1 he (hnd _ (List.mem_cons_self ..)) k1
    obtain ⟨y, rfl, hy⟩ := inB w μ u2 he k3
    subst q3 q2
    have : args = #[.agg x, .agg y] := by apply Array.toList_inj.1; rw [q1]
    subst this
    exact (hk w da db x y hx hy).mono fun e w' ⟨e1, e2⟩ => ⟨_, e1, fun ν => by simp only [VR], e2⟩
  simp only [lawS, List.mem_cons, List.not_mem_nil, or_false] at hs
  rcases hs with rfl | rfl | rfl
  · exact two f hf
  · exact two g hg
  · intro w μ args he hv hnd
    obtain ⟨u1, r1, q1, k1, k2⟩ := @VRs.cons_inv (VW ra dra da db va vb i) _ _ _ _ hv
    obtain ⟨u2, r2, q2, k3, k4⟩ := @VRs.cons_inv (VW ra dra da db va vb i) _ _ _ _ k2
    have q3 := @VRs.nil_inv (VW ra dra da db va vb i) _ _ k4
    obtain ⟨x, rfl, hx⟩ := inA w μ u1 he (hnd _ (List.mem_cons_self ..)) k1
    obtain ⟨y, rfl, hy⟩ := inA w μ u2 he (hnd _ (List.mem_cons_self ..)) k3
    subst q3 q2
    have : args = #[.agg x, .agg y] := by apply Array.toList_inj.1; rw [q1]
    subst this
    exact (hf w da da x y hx hy).mono fun e w' ⟨e1, e2⟩ => ⟨_, e1, fun ν => by rw [eqB_iff.2 rfl]; simp only [VR], e2⟩
include hlr hlen hmx hga in
theorem fkW_ok {i : Nat} (hi : i < ra.length) {lo hi' : Int} (h3 : lo ≤ (ra.length : Int) - i) (h4 : (ra.length : Int) - i ≤ hi') (b : Bool) : @FkOk (VW ra dra da db va vb i) (fkW ts tr jl f g (relW lo hi') (rowW tr) b) := by
  have e1 : dra[i]? = some (dra.getD i []) := by rw [List.getD_eq_getElem?_getD, List.getElem?_eq_getElem (by rw [hlen]; exact hi)]; rfl
  have e3 : ra[i]? = some (ra.getD i []) := by rw [List.getD_eq_getElem?_getD, List.getElem?_eq_getElem hi]; rfl
  have hr := hga i _ _ e1 e3
  have nc := vs_c (ra := ra) (rb := []) (i := i) (da := da) (db := db) (va := va) (vb := vb) (eb := []) (ua := ra.getD i []) (ub := []) (ea := dra.getD i []) (by rw [hr.len.1]; exact hlr)
  have fc := @rowA_fx (VW ra dra da db va vb i) W tr _ _ hr 70 nc
  refine @FkOk.mk (VW ra dra da db va vb i) (fkW ts tr jl f g (relW lo hi') (rowW tr) b) (fun x hx => ?_) (fun x hx => ?_) (fun x hx => by cases hx)
  · have hx : x ∈ relW lo hi' := hx
    simp only [relW, List.mem_cons, List.not_mem_nil, or_false] at hx
    rcases hx with rfl | rfl | rfl <;> simp only [RlOk, nz_Q, nz_I, nz_kZ, mxI] <;> omega
  · obtain rfl := List.mem_singleton.1 (show x ∈ rowW tr from hx)
    exact ⟨i, _, by rw [nz_I]; simp, e3, @FxR.vrs (VW ra dra da db va vb i) _ _ fc⟩
theorem vw_n {i j m : Nat} (h1 : 30 ≤ m) (h2 : m < 70) : (VW ra dra da db va vb i).n (Key.ofNat m) = (VW ra dra da db va vb j).n (Key.ofNat m) := by
  show vsn ra [] i da db (dra.getD i []) [] (Key.ofNat m).nat = vsn ra [] j da db (dra.getD j []) [] (Key.ofNat m).nat
  rw [Key.nat_ofNat (by omega)]
  unfold vsn
  rw [if_neg (show ¬ m = 20 by omega), if_neg (show ¬ m = 20 by omega), if_neg (show ¬ m = 21 by omega), if_neg (show ¬ m = 21 by omega), if_neg (show ¬ m = 22 by omega), if_neg (show ¬ m = 22 by omega)]
  by_cases h : m < 50
  · rw [if_pos h, if_pos h]
  · rw [if_neg h, if_neg h, if_pos h2, if_pos h2]
theorem vw_l {i j m : Nat} (h1 : 30 ≤ m) (h2 : m < 70) : (VW ra dra da db va vb i).l (Key.ofNat m) = (VW ra dra da db va vb j).l (Key.ofNat m) := by
  show vsl ra [] va vb (ra.getD i []) [] (Key.ofNat m).nat = vsl ra [] va vb (ra.getD j []) [] (Key.ofNat m).nat
  rw [Key.nat_ofNat (by omega)]
  unfold vsl
  rw [if_neg (show ¬ m = 20 by omega), if_neg (show ¬ m = 20 by omega), if_neg (show ¬ m = 21 by omega), if_neg (show ¬ m = 21 by omega)]
  by_cases h : m < 50
  · rw [if_pos h, if_pos h]
  · rw [if_neg h, if_neg h, if_pos h2, if_pos h2]
include hl ha hb in
theorem ids_ok (i j : Nat) : (∀ x ∈ idN ts 30 ++ idN ts 50, NnOk (VW ra dra da db va vb i) (VW ra dra da db va vb j) x) ∧ ∀ x ∈ idL ts 30 ++ idL ts 50, (VW ra dra da db va vb j).l x.1 = (VW ra dra da db va vb i).l x.2 := by
  have na := vs_a (ra := ra) (rb := []) (i := i) (db := db) (va := va) (vb := vb) (ea := dra.getD i []) (eb := []) (ua := ra.getD i []) (ub := []) (da := da) (by rw [ha.len.1]; exact hl)
  have nb := vs_b (ra := ra) (rb := []) (i := i) (da := da) (va := va) (vb := vb) (ea := dra.getD i []) (eb := []) (ua := ra.getD i []) (ub := []) (db := db) (by rw [hb.len.1]; exact hl)
  refine ⟨fun x hx => ?_, fun x hx => ?_⟩
  · rcases List.mem_append.1 hx with hx | hx
    · exact idN_ok ha (by omega) (fun m a b => vw_n a (by omega)) na x hx
    · exact idN_ok hb (by omega) (fun m a b => vw_n (by omega) (by omega)) nb x hx
  · rcases List.mem_append.1 hx with hx | hx
    · exact idL_ok (fun m a b => vw_l a (by omega)) x hx
    · exact idL_ok (fun m a b => vw_l (by omega) (by omega)) x hx
variable {H : Cfg} {ks : List Key} (hL : LawOk E ts tr jl f g H ks)
include hjl hl hlr ha hb hda hlen hmx hga hE hf hg hone hL in
theorem law_at (cs' : List Frame) : ∀ (k i : Nat), i + k + 1 = ra.length → ∀ (m : Machine) (lo hi : Int), (lo, hi) = (if k = 0 then (1, 1) else (2, mxI)) → @Sim (VW ra dra da db va vb i) (fkW ts tr jl f g (relW lo hi) (rowW tr) (eqB da db)) E P ⟨cs', W⟩ H m → ∀ v, @Done v E P ⟨cs', W⟩ (.bool true) m := by
  intro k
  induction k with
  | zero =>
    intro i hk m lo hi hlo hs v
    cases hlo
    exact done_x (a := .bool true) rfl (@turns_done (VW ra dra da db va vb i) (fkW ts tr jl f g (relW 1 1) (rowW tr) (eqB da db)) E P hE ⟨cs', W⟩ (lawS_ok hjl hl ha hb hda hlen hmx hga hf hg hone i rfl cs') _ _ _ _ (@runK_some (fkW ts tr jl f g (relW 1 1) (rowW tr) (eqB da db)) _ _ (hL.last _)) hs)
  | succ k ih =>
    intro i hk m lo hi hlo hs v
    cases hlo
    obtain ⟨hd, n, hturn⟩ := hL.turn
    have hb1 : ((if k = 0 then (1, 1) else (2, mxI)) : Int × Int).1 ≤ (ra.length : Int) - ((i + 1 : Nat) : Int) ∧ (ra.length : Int) - ((i + 1 : Nat) : Int) ≤ ((if k = 0 then (1, 1) else (2, mxI)) : Int × Int).2 := by
      unfold mxI; split <;> constructor <;> simp only <;> omega
    have hF1 := fkW_ok (ts := ts) (jl := jl) (da := da) (db := db) (va := va) (vb := vb) (f := f) (g := g) hlr hlen hmx hga (show i + 1 < ra.length by omega) hb1.1 hb1.2 (eqB da db)
    obtain ⟨i1, i2⟩ := ids_ok (ra := ra) (dra := dra) hl ha hb i (i + 1)
    have hsg : SgOk (VW ra dra da db va vb i) (VW ra dra da db va vb (i + 1)) (sgW ts) := by
      refine ⟨fun x hx => ?_, fun x hx => ?_, rfl, fun x hx => by cases hx⟩
      · have hx : x ∈ Nn.mk kLI kLI 1 0 (mxI - 1) :: .mk kLQ kLQ 0 1 mxI :: (idN ts 30 ++ idN ts 50) := hx
        rcases List.mem_cons.1 hx with rfl | hx
        · simp only [NnOk, nz_I, mxI]; omega
        · rcases List.mem_cons.1 hx with rfl | hx
          · simp only [NnOk, nz_Q, mxI]; omega
          · exact i1 x hx
      · have hx : x ∈ (kLQ, kLQ) :: (idL ts 30 ++ idL ts 50) := hx
        rcases List.mem_cons.1 hx with rfl | hx
        · rfl
        · exact i2 x hx
    rcases turn_sim hsg hF1 hE (lawS_ok hjl hl ha hb hda hlen hmx hga hf hg hone i rfl cs') (j := 1) (fun g hg => by cases hg) hL.cl rfl rfl (hturn _) hs with h | ⟨m', h3, h4⟩
    · exact done_x rfl h
    · exact done_st (ih (i + 1) (by omega) m' _ _ rfl h4 v) h3
end
theorem law_of {E : Env} {P : Program} (hE : EnvOk E P) (hgm : E.gm = 0) {ts tr : List Td} {jl : Nat} (hjl : ts[jl]? = some (.l tr)) (hl : ts.length ≤ 20) (hlr : tr.length ≤ 20) {f g : Nat} (hf : CmpS P f ts) (hg : CmpS P g ts) {H : Cfg} {ks : List Key} (hL : LawOk E ts tr jl f g H ks)
    {W : World} (hone : ∀ w, Ext W.heap.size W w → hasBody E E.sum = true → Calls P E.sum #[] w (fun e w' => e = .returned (.bool true) ∧ Ext w.heap.size w w')) {da db : List Dc} {va vb : Array Value} (ha : RdR W ts da va.toList) (hb : RdR W ts db vb.toList) :
    Calls P E.root #[.agg va, .agg vb] W (fun e w' => e = .returned (.bool true) ∧ Ext W.heap.size W w') := by
  obtain ⟨d, v, hda, hva, hrd⟩ := ha.get hjl
  have hrd' := hrd
  simp only [RdC] at hrd'
  obtain ⟨dra, ra, rfl, hla, hmx, hlen, hga⟩ := hrd'
  have na := vs_a (ra := ra) (rb := []) (i := 0) (db := db) (va := va.toList) (vb := vb.toList) (ea := dra.getD 0 []) (eb := []) (ua := ra.getD 0 []) (ub := []) (da := da) (by rw [ha.len.1]; exact hl)
  have nb := vs_b (ra := ra) (rb := []) (i := 0) (da := da) (va := va.toList) (vb := vb.toList) (ea := dra.getD 0 []) (eb := []) (ua := ra.getD 0 []) (ub := []) (db := db) (by rw [hb.len.1]; exact hl)
  have fa := @rowA_fx (VW ra dra da db va.toList vb.toList 0) W ts da _ ha 30 na
  have fb := @rowA_fx (VW ra dra da db va.toList vb.toList 0) W ts db _ hb 50 nb
  have key : ∀ (rel : List Rl), (∀ x ∈ rel, @RlOk (VW ra dra da db va.toList vb.toList 0) x) →
      (∃ c, enter E E.root [lawA ts jl tr.length, lawB ts] false [] (hA tr.length) nx0 = .go c ∧ ∀ cs' m, @Sim (VW ra dra da db va.toList vb.toList 0) (fkW ts tr jl f g rel [] (eqB da db)) E P ⟨cs', W⟩ c m → @Done (VW ra dra da db va.toList vb.toList 0) E P ⟨cs', W⟩ (.bool true) m) →
      Calls P E.root #[.agg va, .agg vb] W (fun e w' => e = .returned (.bool true) ∧ Ext W.heap.size W w') := by
    intro rel hrel hrun
    have hF : @FkOk (VW ra dra da db va.toList vb.toList 0) (fkW ts tr jl f g rel [] (eqB da db)) := @FkOk.mk (VW ra dra da db va.toList vb.toList 0) (fkW ts tr jl f g rel [] (eqB da db)) hrel (fun x hx => by cases hx) (fun x hx => by cases hx)
    obtain ⟨ν, h1, h2, h3, h4⟩ := @HR.argL (VW ra dra da db va.toList vb.toList 0) (fkW ts tr jl f g rel [] (eqB da db)) mu0 hp0 W kLF kLQ tr.length v (@hr_0 (VW ra dra da db va.toList vb.toList 0) (fkW ts tr jl f g rel [] (eqB da db)) hF _ _) (fun _ => rfl) nz_Q hla
    refine @callsB (VW ra dra da db va.toList vb.toList 0) (fkW ts tr jl f g rel [] (eqB da db)) true E P hE W [lawA ts jl tr.length, lawB ts] _ (hA tr.length) nx0 ν (@VRs.cons (VW ra dra da db va.toList vb.toList 0) ν _ _ _ _ ?_ (@VRs.cons (VW ra dra da db va.toList vb.toList 0) ν _ _ _ _ ?_ (@VRs.nil (VW ra dra da db va.toList vb.toList 0) ν))) h3 (@gr_0 E hgm ν) hrun
    · simp only [lawA, VR]
      exact ⟨va, rfl, @VRs.set (VW ra dra da db va.toList vb.toList 0) ν _ _ (@FxR.vrs (VW ra dra da db va.toList vb.toList 0) _ _ fa ν) _ _ fun x hx => by rw [hva] at hx; cases hx; exact h4⟩
    · exact (@FxR.agg (VW ra dra da db va.toList vb.toList 0) _ _ fb ν _).2 (by simp)
  by_cases h0 : ra.length = 0
  · obtain ⟨c, h1, h2⟩ := @runB_some (fkW ts tr jl f g [.mk kZ kLQ 0 0] [] (eqB da db)) _ _ _ _ (hL.none _)
    refine key [.mk kZ kLQ 0 0] (fun x hx => ?_) ⟨c, h1, fun cs' m hs => @turns_done (VW ra dra da db va.toList vb.toList 0) (fkW ts tr jl f g [.mk kZ kLQ 0 0] [] (eqB da db)) E P hE _ (lawS_ok hjl hl ha hb hda hlen hmx hga hf hg hone 0 rfl cs') _ _ _ _ h2 hs⟩
    obtain rfl := List.mem_singleton.1 hx
    simp only [RlOk, nz_Q, nz_kZ]; omega
  · obtain ⟨hd, n, hfirst⟩ := hL.first
    obtain ⟨c, h1, h3⟩ := @enterT_some (fkW ts tr jl f g [.mk kZ kLQ 1 mxI] [] (eqB da db)) _ _ _ _ _ _ _ _ _ _ _ (hfirst _)
    refine key [.mk kZ kLQ 1 mxI] (fun x hx => ?_) ⟨c, h1, fun cs' m hs => ?_⟩
    · obtain rfl := List.mem_singleton.1 hx
      simp only [RlOk, nz_Q, nz_kZ, mxI]; omega
    · obtain ⟨i1, i2⟩ := ids_ok (ra := ra) (dra := dra) hl ha hb 0 0
      have hsg : SgOk (VW ra dra da db va.toList vb.toList 0) (VW ra dra da db va.toList vb.toList 0) (sgW0 ts) := by
        refine ⟨fun x hx => ?_, fun x hx => ?_, rfl, fun x hx => by cases hx⟩
        · have hx : x ∈ Nn.mk kLI kZ 0 0 (mxI - 1) :: .mk kLQ kLQ 0 1 mxI :: (idN ts 30 ++ idN ts 50) := hx
          rcases List.mem_cons.1 hx with rfl | hx
          · simp only [NnOk, nz_I, nz_kZ, mxI]; omega
          · rcases List.mem_cons.1 hx with rfl | hx
            · simp only [NnOk, nz_Q, mxI]; omega
            · exact i1 x hx
        · have hx : x ∈ (kLQ, kLQ) :: (idL ts 30 ++ idL ts 50) := hx
          rcases List.mem_cons.1 hx with rfl | hx
          · rfl
          · exact i2 x hx
      have hb1 : ((if ra.length - 1 = 0 then (1, 1) else (2, mxI)) : Int × Int).1 ≤ (ra.length : Int) - ((0 : Nat) : Int) ∧ (ra.length : Int) - ((0 : Nat) : Int) ≤ ((if ra.length - 1 = 0 then (1, 1) else (2, mxI)) : Int × Int).2 := by
        unfold mxI; split <;> constructor <;> simp only <;> omega
      have hF1 := fkW_ok (ts := ts) (jl := jl) (da := da) (db := db) (va := va.toList) (vb := vb.toList) (f := f) (g := g) hlr hlen hmx hga (show 0 < ra.length by omega) hb1.1 hb1.2 (eqB da db)
      rcases turn_sim hsg hF1 hE (lawS_ok hjl hl ha hb hda hlen hmx hga hf hg hone 0 rfl cs') (j := 1) (fun g hg => by cases hg) hL.cl rfl rfl h3 hs with h | ⟨m', h4, h5⟩
      · exact h
      · exact done_st (law_at hjl hl hlr ha hb hda hlen hmx hga hE hf hg hone hL cs' (ra.length - 1) 0 (by omega) m' _ _ rfl h5 _) h4
end
end Go.Ev
