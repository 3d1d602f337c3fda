/- THE EVALUATOR, part 9 of 9: EvArg -/
import Derived.Test.YtmcnmflbmjidiaaGreatDoorEv8
import Derived.ChangeArms
import Derived.Carry
set_option linter.unusedVariables false
set_option linter.unusedSectionVars false
set_option linter.unusedSimpArgs false
namespace Go.Ev
noncomputable section
set_option linter.unusedVariables false
/-! what any argument of a plain type is -/
def absF (E : Env) (go : TypeId → Option (List AV)) : Nat → List (TypeId × Nat) → Option (List AV)
  | _, [] => some []
  | at_, (t, o) :: fs => bif Nat.beq o at_ then (match E.size t, go t with
      | some n, some l => bif Nat.beq l.length n then (match absF E go (at_ + n) fs with
          | some r => some (l ++ r)
          | none => none) else none
      | _, _ => none) else none
/-- the cells of any value of a type -/
def absT (E : Env) : Nat → TypeId → Option (List AV)
  | 0, _ => none
  | n + 1, t =>
    match E.und t with
    | some .bool => some [.ub]
    | some (.int .i64) => some [.rng .i64 (-9223372036854775808) 9223372036854775807]
    | some (.int _) => some [.any]
    | some .string => some [.any]
    | some (.slice _) => some [.sl 0 9223372036854775807]
    | some (.struct fs) => (match E.size t, absF E (absT E n) 0 (fs.toList.map fun f => (f.type, f.offset)) with
        | some n, some l => bif Nat.beq l.length n then some l else none
        | _, _ => none)
    | some (.array k e) => (match E.size t, absF E (absT E n) 0 ((List.range k).map fun i => (e, i * E.P.cellsOf e)) with
        | some n, some l => bif Nat.beq l.length n then some l else none
        | _, _ => none)
    | _ => none
section
variable {E : Env} {P : Program} (hE : EnvOk E P) {w : World} {μ : Mu} {H : Type} {enc : TypeId × Value → H} {base : Nat} {sp : Nat → Bool} {held : Bool}
include hE
theorem absF_sound {fuel : Nat} {go : TypeId → Option (List AV)} {cs : List Value}
    (ih : ∀ t c x l, DataW.trod enc P w base sp held fuel t c = some x → go t = some l → VRs μ l c) {α : Type} (τ : α → TypeId × Nat) :
    ∀ (as : List α) (at_ : Nat) (xs : List (DataW H × List MemPlace)) (l : List AV),
      as.mapM (fun a => DataW.trod enc P w base sp held fuel (τ a).1 ((cs.drop (τ a).2).take (P.cellsOf (τ a).1))) = some xs →
      absF E go at_ (as.map τ) = some l → VRs μ l ((cs.drop at_).take l.length)
  | [], at_, xs, l, h, hl => by
    simp only [List.map_nil, absF] at hl
    cases hl
    simp only [List.length_nil, List.take_zero]
    exact .nil
  | a :: as, at_, xs, l, h, hl => by
    obtain ⟨x, r, hx, hr, rfl⟩ := mapM_cons_some h
    rcases ht : τ a with ⟨t, o⟩
    simp only [List.map_cons, ht] at hl
    rw [ht] at hx
    replace hl : (bif Nat.beq o at_ then (match E.size t, go t with
          | some n, some l => bif Nat.beq l.length n then (match absF E go (at_ + n) (as.map τ) with
              | some r => some (l ++ r)
              | none => none) else none
          | _, _ => none) else none) = some l := hl
    cases hb : Nat.beq o at_ with
    | false => rw [hb] at hl; cases hl
    | true =>
      rw [hb] at hl
      have ho : o = at_ := Nat.eq_of_beq_eq_true hb
      subst ho
      simp only [cond_true] at hl
      split at hl
      · rename_i n l1 hn hg
        cases hb2 : Nat.beq l1.length n with
        | false => rw [hb2] at hl; cases hl
        | true =>
          rw [hb2] at hl
          have hln : l1.length = n := Nat.eq_of_beq_eq_true hb2
          simp only [cond_true] at hl
          split at hl
          · rename_i l2 hf
            cases hl
            have i1 := ih _ _ x l1 hx hg
            have i2 := absF_sound ih τ as (o + n) r l2 hr hf
            rw [hE.cellsOf hn] at i1
            rw [List.length_append, List.take_add, hln, List.drop_drop]
            exact i1.append i2
          · cases hl
      · cases hl

omit hE in
theorem trod_structG {fuel : Nat} {t : TypeId} {fs : Array Field} {cs : List Value} {x : DataW H × List MemPlace} (hu : P.underlying t = some (.struct fs))
    (h : DataW.trod enc P w base sp held (fuel + 1) t cs = some x) : cs.length = P.cellsOf t ∧ ∃ xs : List (DataW H × List MemPlace),
      fs.toList.mapM (fun f => DataW.trod enc P w base sp held fuel f.type ((cs.drop f.offset).take (P.cellsOf f.type))) = some xs := by
  unfold DataW.trod at h
  rw [hu] at h
  split at h <;> simp_all
  obtain ⟨hl, xs, hp, hd⟩ := h
  exact ⟨xs, hp⟩
omit hE in
theorem trod_arrayG {fuel : Nat} {t e : TypeId} {n : Nat} {cs : List Value} {x : DataW H × List MemPlace} (hu : P.underlying t = some (.array n e))
    (h : DataW.trod enc P w base sp held (fuel + 1) t cs = some x) : cs.length = P.cellsOf t ∧ ∃ xs : List (DataW H × List MemPlace),
      (List.range n).mapM (fun i => DataW.trod enc P w base sp held fuel e ((cs.drop (i * P.cellsOf e)).take (P.cellsOf e))) = some xs := by
  unfold DataW.trod at h
  rw [hu] at h
  split at h <;> simp_all
  obtain ⟨hl, xs, hp, hd⟩ := h
  exact ⟨xs, hp⟩

theorem absT_sound : ∀ (fuel n : Nat) (t : TypeId) (cs : List Value) (x : DataW H × List MemPlace) (l : List AV),
    DataW.trod enc P w base sp held fuel t cs = some x → absT E n t = some l → VRs μ l cs
  | 0, _, _, _, _, _, h, _ => by simp [DataW.trod] at h
  | fuel + 1, 0, _, _, _, _, _, h => by simp [absT] at h
  | fuel + 1, n + 1, t, cs, x, l, h, hl => by
    unfold absT at hl
    split at hl
    · rename_i hu
      cases hl
      obtain ⟨b', rfl, _⟩ := DataW.trod_bool (hE.und hu) h
      exact .cons (by simp only [VR]; exact ⟨_, rfl⟩) .nil
    · rename_i hu
      cases hl
      obtain ⟨m, rfl, _, hw⟩ := DataW.trod_int (hE.und hu) h
      simp only [Lit.wf, Bool.and_eq_true, decide_eq_true_eq] at hw
      exact .cons (by simp only [VR]; exact ⟨m, rfl, hw.1, hw.2⟩) .nil
    · rename_i k hu
      cases hl
      obtain ⟨m, rfl, _, hw⟩ := DataW.trod_int (hE.und hu) h
      exact .cons (by simp only [VR]; exact trivial) .nil
    · rename_i hu
      cases hl
      obtain ⟨s, rfl, _⟩ := DataW.trod_string (hE.und hu) h
      exact .cons (by simp only [VR]; exact trivial) .nil
    · rename_i el hu
      cases hl
      rcases DataW.trod_slice (hE.und hu) h with ⟨rfl, _⟩ | ⟨a, len, cap, elems, rest, n', _, rfl, _, _, h1, h2, _⟩
      · exact .cons (by simp only [VR]; exact ⟨none, 0, 0, rfl, Nat.zero_le _, Nat.zero_le _⟩) .nil
      · have h3 : maxLen = 9223372036854775807 := by decide
        exact .cons (by simp only [VR]; exact ⟨some a, len, cap, rfl, Nat.zero_le _, by omega⟩) .nil
    · rename_i fs hu
      obtain ⟨hlen, xs, hp⟩ := trod_structG (hE.und hu) h
      split at hl
      · rename_i k l' hk hf
        cases hb : Nat.beq l'.length k with
        | false => rw [hb] at hl; cases hl
        | true =>
          rw [hb] at hl
          have hln : l'.length = k := Nat.eq_of_beq_eq_true hb
          obtain rfl : l' = l := Option.some.inj hl
          have := absF_sound hE (μ := μ) (cs := cs) (fun t c x l h1 h2 => absT_sound fuel n t c x l h1 h2) (fun f : Field => (f.type, f.offset)) _ 0 xs l' hp hf
          rw [hE.cellsOf hk] at hlen
          rw [List.drop_zero, hln, ← hlen, List.take_length] at this
          exact this
      · cases hl
    · rename_i k e hu
      obtain ⟨hlen, xs, hp⟩ := trod_arrayG (hE.und hu) h
      split at hl
      · rename_i k' l' hk hf
        cases hb : Nat.beq l'.length k' with
        | false => rw [hb] at hl; cases hl
        | true =>
          rw [hb] at hl
          have hln : l'.length = k' := Nat.eq_of_beq_eq_true hb
          obtain rfl : l' = l := Option.some.inj hl
          have hf' : absF E (absT E n) 0 ((List.range k).map fun i => (e, i * P.cellsOf e)) = some l' := by rw [← hE.prog]; exact hf
          have := absF_sound hE (μ := μ) (cs := cs) (fun t c x l h1 h2 => absT_sound fuel n t c x l h1 h2) (fun i : Nat => (e, i * P.cellsOf e)) _ 0 xs l' hp hf'
          rw [hE.cellsOf hk] at hlen
          rw [List.drop_zero, hln, ← hlen, List.take_length] at this
          exact this
      · cases hl
    · cases hl

/-- an argument of a struct's or array's type -/
theorem absV_sound {r : Reach} {b0 n : Nat} {t : TypeId} {v : Value} {d : DataW H} {ps : List MemPlace} {l : List AV} (ha : (match E.und t with | some td => isAggT td | none => false) = true)
    (hok : Value.okWide P w r b0 t v) (h : DataW.Trod enc P w base sp held t v d ps) (hl : absT E n t = some l) : VR μ (.agg l) v := by
  obtain ⟨fuel, hf⟩ := h
  obtain ⟨td, hu, ha⟩ : ∃ td, E.und t = some td ∧ isAggT td = true := by
    split at ha
    · rename_i td hu; exact ⟨td, hu, ha⟩
    · cases ha
  have hv : ∃ cs, v = .agg cs := by
    unfold Value.okWide at hok
    rw [hE.und hu] at hok
    cases td <;> first | (obtain ⟨cs, e, _⟩ := hok; exact ⟨cs, e⟩) | cases ha
  obtain ⟨cs, rfl⟩ := hv
  simp only [VR]
  exact ⟨cs, rfl, absT_sound hE _ _ _ _ _ _ hf hl⟩
end

theorem below_of_ext {B : Nat} {W W' : World} (he : Ext B W W') : Go.RowKit.Below B W W' := ⟨he.os, he.tape, he.output, he.size, he.block⟩
/-- as post_of_ext: the arguments read as they did, at what was there -/
theorem post_of_ext' {H : Type} {enc : TypeId × Value → H} {P : Program} {f : Func} {s : ChangeSpec} {apart fresh handsOn : Bool} {W W' : World} {args : Array Value} {v : Value} {ds gs : List (DataW H)} {before pa pv : List MemPlace}
    (hW : DataW.Whole enc P f.params.toList s.vars apart W args.toList ds gs before)
    (hres : ∀ (b : Nat) (sp : Nat → Bool) (hd : Bool), DataW.TrodAll enc P W' b sp hd f.resultTypes.toList (v.resultList f.resultTypes.size) (s.fn H (ds ++ gs)).results [])
    (hargs : DataW.TrodAll enc P W' 0 (fun b => decide (b < W.heap.size)) true f.params.toList args.toList (s.fn H (ds ++ gs)).args pa)
    (hvars : DataW.TrodVars enc P W' (fun b => decide (b < W.heap.size)) s.vars (s.fn H (ds ++ gs)).vars pv)
    (he : Ext W.heap.size W W') : s.post enc P f apart fresh handsOn false W args v W' :=
  ⟨ds, gs, before, [], pa, pv, hW, hres _ _ _, hargs, hvars, keptBut_of_ext he _, fun h => by cases h⟩
end
end Go.Ev
