/- THE EVALUATOR, part 5 of 12: EvAlloc EvEff EvEff2 EvEff3 EvEff4 EvEff5 -/
import Derived.Test.YtdhfgfdpncmopaaGreatDoorEv4
import Derived.Laws.NewFold
import Derived.Laws.AppendOwn
set_option linter.unusedVariables false
set_option linter.unusedSectionVars false
set_option linter.unusedSimpArgs false
namespace Go.Ev
set_option linter.unusedVariables false
set_option linter.unusedSectionVars false
set_option linter.unusedSimpArgs false
variable [Val] [Fk]
theorem chunks_get : ∀ (sz n : Nat) (l : List AV) (r : Nat) (l' : List AV) (gw : Nat), (chunks sz n l)[r]? = some (.mk l' gw) → r < n ∧ gw = 0 ∧ l' = (l.drop (r * sz)).take sz
  | sz, 0, l, r, l', gw, h => by simp [chunks] at h
  | sz, n + 1, l, 0, l', gw, h => by
    simp [chunks] at h
    obtain ⟨rfl, rfl⟩ := h
    simp
  | sz, n + 1, l, r + 1, l', gw, h => by
    simp only [chunks, List.getElem?_cons_succ] at h
    obtain ⟨h1, h2, h3⟩ := chunks_get sz n _ r l' gw h
    refine ⟨by omega, h2, ?_⟩
    rw [h3, List.drop_drop]
    congr 2
    rw [Nat.add_mul]; omega
theorem chunks_length : ∀ (sz n : Nat) (l : List AV), (chunks sz n l).length = n
  | _, 0, _ => rfl
  | sz, n + 1, l => by simp [chunks, chunks_length sz n]
def CellsR (μ : Mu) (l : List AV) (cs : Array Value) : Prop := ∀ (i : Nat) (a : AV), l[i]? = some a → ∃ v, cs[i]? = some v ∧ VR μ a v
theorem CellsR.of {μ : Mu} {l : List AV} {cs : Array Value} (h : VRs μ l cs.toList) : CellsR μ l cs := fun i a hi => by
  obtain ⟨v, h1, h2⟩ := h.get hi
  exact ⟨v, by simpa using h1, h2⟩
theorem CellsR.mono {μ ν : Mu} (h : μ.le ν) {l : List AV} {cs : Array Value} (k : CellsR μ l cs) : CellsR ν l cs := fun i a hi => let ⟨v, h1, h2⟩ := k i a hi; ⟨v, h1, VR.mono h _ _ h2⟩
theorem chunk_row {μ : Mu} {sz n r gw : Nat} {l l' : List AV} {cs : Array Value} (hl : l.length = n * sz) (hc : CellsR μ l cs) (h : (chunks sz n l)[r]? = some (.mk l' gw)) : RowR μ cs 0 sz r l' := by
  obtain ⟨h1, h2, rfl⟩ := chunks_get sz n l r l' gw h
  have h3 : (r + 1) * sz ≤ n * sz := Nat.mul_le_mul_right sz h1
  rw [Nat.add_mul, Nat.one_mul] at h3
  refine ⟨Nat.zero_le _, by simp; omega, fun j a hj => ?_⟩
  rw [List.getElem?_take, List.getElem?_drop] at hj
  split at hj
  · obtain ⟨v, e1, e2⟩ := hc _ a hj
    exact ⟨v, by simpa using e1, e2⟩
  · cases hj
section
variable {E : Env} {P : Program} (hE : EnvOk E P) {B : Nat} {μ : Mu} {h : Hp} {w : World} (hH : HR B μ h w) {nx : Key} (hnx : (hget nx h).isNone = true) (hB : B ≤ w.heap.size)
  {L : Lo} {ρ : Operand → Value} {q : Operand → Opd} (hq : ∀ x, VR μ (getO (q x) L) (ρ x))
variable {d : Option Tmp} {ty : TypeId} {pos : String} {af : Array Edge} {gd : Option (Nat × Bool)} {a : AV} {ob : Ob}
def Makes (P : Program) (ρ : Operand → Value) (B : Nat) (μ : Mu) (h : Hp) (nx : Key) (w : World) (o : Oper) (ob : Ob) (a : AV) : Prop :=
  ∃ v w' μ', (execOp ρ o).run P w = .ok (.value v) w' ∧ VR μ' a v ∧ μ.le μ' ∧ HR B μ' (hset nx ob h) w' ∧ Ext B w w' ∧ Kp h μ (hset nx ob h) μ'
include hH hnx in
theorem HR.noneAt (g : Nat) : μ nx g = none := by
  have := hH.obj nx
  have hn : hget nx h = .none := by cases hh : hget nx h <;> rw [hh] at hnx <;> first | rfl | cases hnx
  rw [hn] at this; exact this g
include hH hnx hB in
theorem makes_of {o : Oper} {v : Value} {w' : World} {no : Obj} {gen n : Nat} (hrun : (execOp ρ o).run P w = .ok (.value v) w') (hw : w'.heap = w.heap.push no)
    (h1 : w'.os = w.os) (h2 : w'.tape = w.tape) (h3 : w'.output = w.output)
    (hv : VR (μ.ins nx gen (w.heap.size, 0, n)) a v) (hob : OR B (μ.ins nx gen (w.heap.size, 0, n)) w' nx ob) : Makes P ρ B μ h nx w o ob a := by
  obtain ⟨e1, e2⟩ := hH.alloc hnx hw hob
  refine ⟨v, w', _, hrun, hv, e2, e1, ⟨h1, h2, h3, by rw [hw]; simp, fun k hk => ?_⟩, .new hnx⟩
  rw [hw, Array.getElem?_push, if_neg (by omega)]
include hH hnx hB in
theorem new_cells {w' : World} {cs : Array Value} {e : TypeId} {fz : Nat × Nat} {gen sz dp ext : Nat} {c : Tr Row} (hw : w'.heap = w.heap.push (.cells cs e fz)) (hf : FzOk gen cs fz)
    (hwf : Tr.Wf dp c) (hext : ∀ r, ext ≤ r → c.get r = none)
    (hrows : ∀ r l gw, c.get r = some (.mk l gw) → gw = 0 ∧ RowR (μ.ins nx gen (w.heap.size, 0, cs.size)) cs 0 sz r l) :
    OR B (μ.ins nx gen (w.heap.size, 0, cs.size)) w' nx (.cells false gen sz dp ext c) := by
  refine ⟨⟨hwf, hext⟩, ⟨fun g hg => ?_, fun r l gw hr => by rw [(hrows r l gw hr).1]; exact Nat.zero_le _⟩, fun g b s n hm => ?_⟩
  · rw [Mu.ins_other _ (.inr (by omega))]; exact hH.noneAt hnx g
  · rcases Mu.ins_inv hm with ⟨_, rfl, e1⟩ | k1
    · cases e1
      exact ⟨fun _ => hB, Nat.zero_mod _, cs, e, fz, by rw [hw]; simp, hf, rfl, fun r l gw g1 _ _ => (hrows r l gw g1).2⟩
    · rw [hH.noneAt hnx g] at k1; cases k1
include hH hnx hB in
theorem new_rowOf {w' : World} {cs : Array Value} {e : TypeId} {l : List AV} (hw : w'.heap = w.heap.push (.cells cs e (0, 0))) (hc : CellsR μ l cs) :
    OR B (μ.ins nx 0 (w.heap.size, 0, cs.size)) w' nx (rowOf l) := by
  refine new_cells hH hnx hB hw (.inl rfl) (.lf _) (fun r hr => ?_) (fun r l' gw hg => ?_)
  · rw [Tr.get_lf, if_neg (by omega)]
  · rw [Tr.get_lf] at hg
    split at hg
    · rename_i h0
      simp only [Option.some.injEq, Row.mk.injEq] at hg
      obtain ⟨rfl, rfl⟩ := hg
      subst h0
      refine ⟨rfl, Nat.zero_le _, rfl, fun j a hj => ?_⟩
      obtain ⟨v, e1, e2⟩ := (hc.mono (Mu.ins_le (hH.noneAt hnx 0) _)) j a hj
      exact ⟨v, by simpa using e1, e2⟩
    · cases hg
include hH hnx hB in
theorem new_rowsOfG {w' : World} {cs : Array Value} {e : TypeId} {l : List AV} {g sz n : Nat} (hw : w'.heap = w.heap.push (.cells cs e (0, 0))) (hc : CellsR μ l cs) (hl : l.length = n * sz) :
    OR B (μ.ins nx g (w.heap.size, 0, cs.size)) w' nx (rowsOfG g sz n l) := by
  refine new_cells hH hnx hB hw (.inl rfl) (Tr.ofList_wf _ _) (fun r hr => ?_) (fun r l' gw hg => ?_)
  · cases hg : (Tr.ofList (depthFor n 25 0) (chunks sz n l)).get r with
    | none => rfl
    | some x =>
      have := Tr.ofList_some _ _ _ _ hg
      have := (List.getElem?_eq_some_iff.1 this).1
      rw [chunks_length] at this; omega
  · exact ⟨(chunks_get _ _ _ _ _ _ (Tr.ofList_some _ _ _ _ hg)).2.1, chunk_row hl (hc.mono (Mu.ins_le (hH.noneAt hnx g) _)) (Tr.ofList_some _ _ _ _ hg)⟩
include hH hnx hB in
theorem new_rowsOf {w' : World} {cs : Array Value} {e : TypeId} {l : List AV} {sz n : Nat} (hw : w'.heap = w.heap.push (.cells cs e (0, 0))) (hc : CellsR μ l cs) (hl : l.length = n * sz) :
    OR B (μ.ins nx 0 (w.heap.size, 0, cs.size)) w' nx (rowsOf sz n l) := new_rowsOfG hH hnx hB hw hc hl
theorem vr_new {gen n : Nat} : VR (μ.ins nx 0 (w.heap.size, 0, n)) (.ptr nx 0 0) (.pointer (some ⟨w.heap.size, 0, none⟩)) := by
  simp only [VR]; exact ⟨_, _, _, Mu.ins_same _ _ _ _, Nat.le_refl _, rfl⟩
include hE hH hnx hB in
theorem a_alloc {t : TypeId} {z : AV} (hz : zeroA E t = some z) : Makes P ρ B μ h nx w ⟨d, .alloc t, ty, pos, af, gd⟩ (allocOb E t z) (.ptr nx 0 0) := by
  obtain ⟨zv, hzv, rfl⟩ := hE.runZero hz w
  have hrun : (execOp ρ ⟨d, .alloc t, ty, pos, af, gd⟩).run P w = .ok (.value (.pointer (some ⟨w.heap.size, 0, none⟩))) (w.alloc (.cells zv.cells t)) := by
    refine run_val (s := Instr.alloc t true (.tuple #[])) ?_
    simp [Instr.alloc, hzv, newVar, newRow]
  have hc := CellsR.of (ofV_cells (μ := μ) zv)
  refine makes_of hH hnx hB hrun rfl rfl rfl rfl (n := zv.cells.size) (gen := 0) (vr_new (gen := 0)) ?_
  have one : OR B (μ.ins nx 0 (w.heap.size, 0, zv.cells.size)) (w.alloc (.cells zv.cells t)) nx (rowOf (ofV zv).cells) := new_rowOf hH hnx hB rfl hc
  unfold allocOb
  split
  · rename_i n el hu
    split
    · rename_i k hk
      cases hb : Nat.beq (ofV zv).cells.length (n * (k + 1)) with
      | true => exact new_rowsOf hH hnx hB rfl hc (Nat.eq_of_beq_eq_true hb)
      | false => exact one
    · exact one
  · exact one
include hH hnx hB hq in
theorem a_box {sz n : Nat} {t : TypeId} {x : Operand} (hev : (AI.box sz n (q x)).ev h nx L = some (ob, a)) : Makes P ρ B μ h nx w ⟨d, .box t x, ty, pos, af, gd⟩ ob a := by
  obtain ⟨l, hev, hl⟩ := cellsK_some (hq x) (show cellsK (getO (q x) L) none (fun l => some (boxOb sz n l, AV.ptr nx 0 0)) = some (ob, a) from hev)
  simp only [Option.some.injEq, Prod.mk.injEq] at hev
  obtain ⟨rfl, rfl⟩ := hev
  have hrun : (execOp ρ ⟨d, .box t x, ty, pos, af, gd⟩).run P w = .ok (.value (.pointer (some ⟨w.heap.size, 0, none⟩))) (w.alloc (.cells (ρ x).cells t)) := by
    refine run_val (s := Instr.box t (ρ x)) ?_
    simp [Instr.box, newVar, newRow]
  refine makes_of hH hnx hB hrun rfl rfl rfl rfl (n := (ρ x).cells.size) (gen := 0) (vr_new (gen := 0)) ?_
  unfold boxOb
  cases h1 : Nat.beq sz 0 with
  | true => exact new_rowOf hH hnx hB rfl (CellsR.of hl)
  | false =>
    cases h2 : Nat.beq l.length (Nat.mul n sz) with
    | false => exact new_rowOf hH hnx hB rfl (CellsR.of hl)
    | true => exact new_rowsOf hH hnx hB rfl (CellsR.of hl) (Nat.eq_of_beq_eq_true h2)
theorem repL_length : ∀ (l : List AV) (n : Nat), (repL l n).length = n * l.length
  | l, 0 => by simp [repL]
  | l, n + 1 => by simp only [repL, List.length_append, repL_length l n, Nat.add_mul, Nat.one_mul]; omega
theorem zeros_sound {z : List AV} {zs : Array Value} (hz : VRs μ z zs.toList) (n : Nat) (hpos : n * z.length ≠ 0) : VRs μ (repL z n) ((Array.range (n * z.length)).map (zs[· % zs.size]!)).toList := by
  have hzl : z.length = zs.size := by have := hz.length; simpa using this
  refine VRs.of_get (by simp [repL_length]) ?_
  intro i a hi
  have hil : i < n * z.length := by
    have := (List.getElem?_eq_some_iff.1 hi).1
    rw [repL_length] at this; exact this
  have key : ∀ (n i : Nat), i < n * z.length → (repL z n)[i]? = z[i % z.length]? := by
    intro n
    induction n with
    | zero => intro i hi; simp at hi
    | succ n ih =>
      intro i hi
      simp only [repL, List.getElem?_append]
      split
      · rename_i h1; rw [Nat.mod_eq_of_lt h1]
      · rename_i h1
        rw [ih (i - z.length) (by rw [Nat.add_mul] at hi; omega)]
        congr 1
        rw [← Nat.mod_eq_sub_mod (by omega)]
  rw [key n i hil] at hi
  obtain ⟨v, e1, e2⟩ := hz.get hi
  refine ⟨v, ?_, e2⟩
  have hlt : i % zs.size < zs.size := by rw [← hzl]; exact Nat.mod_lt _ (by rcases Nat.eq_zero_or_pos z.length with h0 | h0; (rw [h0] at hpos; simp at hpos); exact h0)
  rw [Array.getElem?_toList, Array.getElem?_map, Array.getElem?_range, if_pos hil]
  simp only [Option.map_some]
  rw [hzl] at e1
  rw [Array.getElem?_toList] at e1
  rw [getElem!_pos zs _ hlt]
  rw [Array.getElem?_eq_getElem hlt] at e1
  exact e1
theorem vr_newSl {gen n len cap c sz : Nat} {ex : Bool} (h1 : len ≤ cap) (h2 : cap ≤ c) (h3 : ex = true → c = cap) (h4 : c * sz ≤ n) :
    VR (μ.ins nx gen (w.heap.size, 0, n)) (.slice nx gen 0 len cap sz ex) (.slice (some ⟨w.heap.size, 0, none⟩) len c) := by
  simp only [VR]
  exact ⟨_, _, _, 0, c, Mu.ins_same _ _ _ _, rfl, h1, h2, h3, .inl ⟨Nat.le_refl _, rfl, by omega⟩⟩
omit hE hH hnx hB hq in
theorem exec_buildSlice {t : TypeId} {len : Nat} {ps : Array (Nat × Operand)} : execOp ρ ⟨d, .buildSlice t len ps, ty, pos, af, gd⟩ = (do pure (Next.value (← Instr.buildSlice t len (ps.map fun (i, x) => (i, ρ x)))) : Sem Next) := by
  simp only [execOp]
omit hE hH hnx hB hq in
theorem run_buildSlice {t el : TypeId} {n len : Nat} {parts : Array (Nat × Value)} {cs0 cs' : Array Value} (hu : (underlying t).run P w = .ok (.slice el) w) (hn : (sizeOf el).run P w = .ok n w) (h2 : len * n ≤ 16777216)
    (hr0 : (if len * n = 0 then pure #[] else do pure (← zeroValue el).cells : Sem (Array Value)).run P w = .ok cs0 w)
    (e1 : Instr.fill (fun i => some (i * n, n)) ((Array.range (len * n)).map (cs0[· % cs0.size]!)) parts.toList = some cs') :
    (Instr.buildSlice t len parts).run P w = .ok (.slice (some ⟨w.heap.size, 0, none⟩) len len) (w.alloc (.cells cs' el)) := by
  have hle : ¬ len * n > 2 ^ 24 := by
    have : (2 : Nat) ^ 24 = 16777216 := rfl
    omega
  unfold Instr.buildSlice
  simp only [Sem.run_bind, hu, hn, Result.andThen_ok, hle, if_false, Sem.run_pure]
  by_cases h0 : len * n = 0
  · simp only [h0, if_true] at hr0 ⊢
    simp only [Sem.run_pure, Result.ok.injEq, and_true] at hr0
    subst hr0
    rw [h0] at e1
    simp only [Sem.run_bind, Sem.run_pure, Result.andThen_ok, e1, newRow, run_newObj_alloc]
  · simp only [h0, if_false] at hr0 ⊢
    simp only [Sem.run_bind] at hr0
    simp only [Sem.run_bind]
    cases hz : (zeroValue el).run P w with
    | halt _ _ => rw [hz] at hr0; cases hr0
    | ok z w1 =>
      rw [hz] at hr0
      simp only [Result.andThen_ok, Sem.run_pure, Result.ok.injEq] at hr0
      obtain ⟨rfl, rfl⟩ := hr0
      simp only [Sem.run_bind, Sem.run_pure, Result.andThen_ok, e1, newRow, run_newObj_alloc]
include hE hH hnx hB hq in
theorem a_bslice {t el : TypeId} {n len : Nat} {ps : Array (Nat × Operand)} {l : List (Nat × Nat × Opd)} {z : AV} (hu : E.und t = some (.slice el)) (hn : E.size el = some n) (hz : zeroA E el = some z)
    (h1 : Nat.beq z.cells.length n = true) (h2 : Nat.ble (len * n) 16777216 = true) (hl : partsP q (fun i => some (i * n, n)) ps.toList = some l)
    {g : Nat} (hev : (AI.bslice g n len z.cells l).ev h nx L = some (ob, a)) : Makes P ρ B μ h nx w ⟨d, .buildSlice t len ps, ty, pos, af, gd⟩ ob a := by
  have h1 := Nat.eq_of_beq_eq_true h1
  have h2 : len * n ≤ 16777216 := Nat.le_of_ble_eq_true h2
  obtain ⟨zv, hzv, rfl⟩ := hE.runZero hz w
  have hzc := ofV_cells (μ := μ) zv
  have hzs : zv.cells.size = n := by have := hzc.length; simp at this; omega
  have hev' : (match fillF L (repL (ofV zv).cells len) l with | some r => some (rowsOfG g n len r, AV.slice nx g 0 len len n true) | none => none) = some (ob, a) := hev
  split at hev'
  · rename_i r hf
    simp only [Option.some.injEq, Prod.mk.injEq] at hev'
    obtain ⟨rfl, rfl⟩ := hev'
    have hcells : ∃ cs0 : Array Value, ((if len * n = 0 then pure #[] else do pure (← zeroValue el).cells : Sem (Array Value)).run P w = .ok cs0 w) ∧
        VRs μ (repL (ofV zv).cells len) ((Array.range (len * n)).map (cs0[· % cs0.size]!)).toList := by
      by_cases h0 : len * n = 0
      · refine ⟨#[], by simp [h0], ?_⟩
        have : repL (ofV zv).cells len = [] := List.length_eq_zero_iff.1 (by rw [repL_length, h1]; exact h0)
        rw [this, h0]; simpa using VRs.nil
      · refine ⟨zv.cells, by simp [h0, hzv], ?_⟩
        have := zeros_sound hzc len (by rw [h1]; exact h0)
        rw [h1] at this; exact this
    obtain ⟨cs0, hr0, hv0⟩ := hcells
    obtain ⟨cs', e1, e2⟩ := fill_sound hq ps.toList l _ r _ hl hf hv0
    have hlen : r.length = len * n := by
      have key : ∀ (ps : List (Nat × Nat × Opd)) (c r : List AV), fillF L c ps = some r → r.length = c.length := by
        intro ps
        induction ps with
        | nil => intro c r hh; cases hh; rfl
        | cons p ps ih =>
          intro c r hh
          obtain ⟨off, size, o⟩ := p
          unfold fillF at hh
          have : ∀ l, cnd (Nat.beq l.length size) (cnd (Nat.ble (Nat.add off size) c.length) (fillF L (putAt c off l) ps) none) none = some r → r.length = c.length := by
            intro l hh
            obtain ⟨g1, hh⟩ := cnd_inv hh
            obtain ⟨g2, hh⟩ := cnd_inv hh
            have g1 := Nat.eq_of_beq_eq_true g1
            have g2 : off + size ≤ c.length := Nat.le_of_ble_eq_true g2
            rw [ih _ _ hh]
            simp only [putAt, List.length_append, List.length_take, List.length_drop]; omega
          unfold cellsK at hh
          rcases (by cases getO o L <;> first | exact .inl ⟨_, rfl⟩ | exact .inr (fun l h => by cases h) : (∃ l, getO o L = .agg l) ∨ ∀ l, getO o L ≠ .agg l) with ⟨l, hl⟩ | hn
          · rw [hl] at hh; exact this l hh
          · have hk' : cnd (getO o L).scalar (cnd (Nat.beq [getO o L].length size) (cnd (Nat.ble (Nat.add off size) c.length) (fillF L (putAt c off [getO o L]) ps) none) none) none = some r := by
              cases hh' : getO o L <;> rw [hh'] at hh hn <;> first | exact hh | exact absurd rfl (hn _)
            exact this _ (cnd_inv hk').2
      rw [key _ _ _ hf, repL_length, h1]
    have hcs : cs'.size = len * n := by have := e2.length; simp at this; omega
    have hrun : (execOp ρ ⟨d, .buildSlice t len ps, ty, pos, af, gd⟩).run P w = .ok (.value (.slice (some ⟨w.heap.size, 0, none⟩) len len)) (w.alloc (.cells cs' el)) := by
      rw [exec_buildSlice]
      refine run_val ?_
      have e3 : (ps.map fun (i, x) => (i, ρ x)).toList = ps.toList.map fun p => (p.1, ρ p.2) := by rw [Array.toList_map]
      exact run_buildSlice (hE.runUnd hu w) (hE.runSize hn w) h2 hr0 (by rw [e3]; exact e1)
    refine makes_of hH hnx hB hrun rfl rfl rfl rfl (n := cs'.size) (gen := g) (vr_newSl (Nat.le_refl _) (Nat.le_refl _) (fun _ => rfl) (by omega)) (new_rowsOfG hH hnx hB rfl (CellsR.of e2) hlen)
  · cases hev'
include hH hnx hB in
theorem new_map {w' : World} (hw : w'.heap = w.heap.push (.map #[] 0)) : OR B (μ.ins nx 0 (w.heap.size, 0, 0)) w' nx (.map [] 0) := by
  refine ⟨fun g hg => ?_, fun b s n hm => ?_⟩
  · rw [Mu.ins_other _ (.inr (by omega))]; exact hH.noneAt hnx g
  · rcases Mu.ins_inv hm with ⟨_, _, e1⟩ | k1
    · cases e1
      exact ⟨hB, #[], by rw [hw]; simp, by simp [EnsR]⟩
    · rw [hH.noneAt hnx 0] at k1; cases k1
include hH hnx hB hq in
theorem a_mkMap {t : TypeId} {x : Option Operand} (hx : ∀ y, x = some y → ∃ k n, ρ y = .int k n) (hu : x.isSome = true → ∃ k e, P.underlying t = some (.map k e)) :
    Makes P ρ B μ h nx w ⟨d, .makeMap t x, ty, pos, af, gd⟩ (.map [] 0) (.map nx) := by
  have hrun : (execOp ρ ⟨d, .makeMap t x, ty, pos, af, gd⟩).run P w = .ok (.value (.map (some w.heap.size))) (w.alloc (.map #[] 0)) := by
    refine run_val (s := Instr.makeMap t (x.map ρ)) ?_
    cases x with
    | none => simp [Instr.makeMap]
    | some y =>
      obtain ⟨k, n, e⟩ := hx y rfl
      obtain ⟨k', e', hu⟩ := hu rfl
      simp [Instr.makeMap, run_underlying hu, e, Go.asInt, asIntOf]
  refine makes_of hH hnx hB hrun rfl rfl rfl rfl (n := 0) (gen := 0) ?_ (new_map hH hnx hB rfl)
  simp only [VR]; exact ⟨_, _, _, Mu.ins_same _ _ _ _, rfl⟩
theorem wrap64_small (n : Nat) (hn : n ≤ 100000) : IntKind.i64.wrap (n : Int) = n := by
  have := wrap_small .i64 n (by show n ≤ 9223372036854775807; omega)
  simpa using this
omit hE hH hnx hB hq in
theorem run_makeSlice {t el : TypeId} {i : TypeInfo} {l c : Nat} {kl kc : IntKind} {cs0 : Array Value} (hu : (underlying t).run P w = .ok (.slice el) w) (hi : P.info? el = some i)
    (h1 : l ≤ c) (h2 : c ≤ 100000) (h3 : i.bytes ≤ 1000000)
    (hr0 : (if c * i.size = 0 then pure #[] else do pure (← zeroValue el).cells : Sem (Array Value)).run P w = .ok cs0 w) :
    (Instr.makeSlice t (.int kl (l : Nat)) (.int kc (c : Nat))).run P w = .ok (.slice (some ⟨w.heap.size, 0, none⟩) l c) (w.alloc (.cells ((Array.range (c * i.size)).map (cs0[· % cs0.size]!)) el)) := by
  have hinfo : (typeInfo el).run P w = .ok i w := by simp [typeInfo, hi]
  have hsz : (sizeOf el).run P w = .ok i.size w := by simp [sizeOf, typeInfo, hi]
  have hb : i.bytes * c ≤ 1000000 * 100000 := Nat.mul_le_mul h3 h2
  have t1 : ¬ (2 ^ 48 : Int) < (i.bytes : Int) * (c : Int) := by
    have : ((i.bytes * c : Nat) : Int) ≤ ((1000000 * 100000 : Nat) : Int) := Int.ofNat_le.2 hb
    rw [Int.natCast_mul] at this
    have h48 : (2 ^ 48 : Int) = 281474976710656 := rfl
    omega
  unfold Instr.makeSlice
  simp only [Sem.run_bind, hu, Result.andThen_ok, Go.asInt, asIntOf, Sem.run_pure, hinfo, wrap64_small l (by omega), wrap64_small c h2]
  have c1 : (decide ((c : Int) < 0) || decide ((i.bytes : Int) * (c : Int) > 2 ^ 48)) = false := by simp; omega
  have c2 : (decide ((l : Int) < 0)) = false := by simp
  have c3 : ¬ ((l : Int) > (c : Int)) := by omega
  have c4 : ¬ ((l : Int) < 0) := by omega
  have c5 : (decide ((c : Int) < 0) || decide ((i.bytes : Int) * (c : Int) > 2 ^ 48) || decide ((l : Int) < 0) || decide ((l : Int) > (c : Int))) = false := by rw [c1]; simp; omega
  rw [if_neg (by rw [c5]; simp)]
  simp only [Int.toNat_natCast, Sem.run_bind, run_askRoom, Result.andThen_ok, hsz, Sem.run_pure]
  by_cases h0 : c * i.size = 0
  · simp only [h0, if_true] at hr0 ⊢
    simp only [Sem.run_pure, Result.ok.injEq, and_true] at hr0
    subst hr0
    simp only [Sem.run_bind, Sem.run_pure, Result.andThen_ok, newRow, run_newObj_alloc]
  · simp only [h0, if_false] at hr0 ⊢
    simp only [Sem.run_bind] at hr0
    simp only [Sem.run_bind]
    cases hz : (zeroValue el).run P w with
    | halt _ _ => rw [hz] at hr0; cases hr0
    | ok z w1 =>
      rw [hz] at hr0
      simp only [Result.andThen_ok, Sem.run_pure, Result.ok.injEq] at hr0
      obtain ⟨rfl, rfl⟩ := hr0
      simp only [Sem.run_bind, Sem.run_pure, Result.andThen_ok, newRow, run_newObj_alloc]
include hE hH hnx hB hq in
theorem a_mkSlice {t el : TypeId} {n : Nat} {x y : Operand} {z : AV} (hu : E.und t = some (.slice el)) (hn : E.size el = some n) (hz : zeroA E el = some z)
    (h1 : Nat.beq z.cells.length n = true) (h2 : Nat.ble (bytesO E el) 1000000 = true)
    (hev : (AI.mkSlice n z.cells (q x) (q y)).ev h nx L = some (ob, a)) : Makes P ρ B μ h nx w ⟨d, .makeSlice t x y, ty, pos, af, gd⟩ ob a := by
  have h1 := Nat.eq_of_beq_eq_true h1
  have h2 := Nat.le_of_ble_eq_true h2
  obtain ⟨zv, hzv, rfl⟩ := hE.runZero hz w
  have hzc := ofV_cells (μ := μ) zv
  have hzs : zv.cells.size = n := by have := hzc.length; simp at this; omega
  obtain ⟨k1, l, ex, hev⟩ := idx_q hq (show idx (q x) L none (fun l => idx (q y) L none fun c => cnd (Nat.ble l c) (cnd (Nat.ble c 100000) (some (rowsOf n c (repL (ofV zv).cells c), AV.slice nx 0 0 l c n true)) none) none) = some (ob, a) from hev)
  obtain ⟨k2, c, ey, hev⟩ := idx_q hq hev
  obtain ⟨g1, hev⟩ := cnd_inv hev
  obtain ⟨g2, hev⟩ := cnd_inv hev
  have g1 := Nat.le_of_ble_eq_true g1
  have g2 := Nat.le_of_ble_eq_true g2
  simp only [Option.some.injEq, Prod.mk.injEq] at hev
  obtain ⟨rfl, rfl⟩ := hev
  unfold Env.size at hn
  unfold bytesO at h2
  split at hn
  · rename_i i hi
    rw [hi] at h2
    simp only at h2
    have hi' := hE.ts _ _ hi
    simp only [Option.some.injEq] at hn
    subst hn
    have hcells : ∃ cs0 : Array Value, ((if c * i.size = 0 then pure #[] else do pure (← zeroValue el).cells : Sem (Array Value)).run P w = .ok cs0 w) ∧
        VRs μ (repL (ofV zv).cells c) ((Array.range (c * i.size)).map (cs0[· % cs0.size]!)).toList := by
      by_cases h0 : c * i.size = 0
      · refine ⟨#[], by simp [h0], ?_⟩
        have : repL (ofV zv).cells c = [] := List.length_eq_zero_iff.1 (by rw [repL_length, h1]; exact h0)
        rw [this, h0]; simpa using VRs.nil
      · refine ⟨zv.cells, by simp [h0, hzv], ?_⟩
        have := zeros_sound hzc c (by rw [h1]; exact h0)
        rw [h1] at this; exact this
    obtain ⟨cs0, hr0, hv0⟩ := hcells
    have hrun : (execOp ρ ⟨d, .makeSlice t x y, ty, pos, af, gd⟩).run P w = .ok (.value (.slice (some ⟨w.heap.size, 0, none⟩) l c)) (w.alloc (.cells ((Array.range (c * i.size)).map (cs0[· % cs0.size]!)) el)) := by
      refine run_val (s := Instr.makeSlice t (ρ x) (ρ y)) ?_
      rw [ex, ey]
      exact run_makeSlice (hE.runUnd hu w) hi' g1 g2 h2 hr0
    refine makes_of hH hnx hB hrun rfl rfl rfl rfl (gen := 0) (vr_newSl g1 (Nat.le_refl _) (fun _ => rfl) (by simp)) (new_rowsOf hH hnx hB rfl (CellsR.of hv0) (by rw [repL_length, h1]))
  · cases hn
include hE hH hnx hB hq in
theorem a_mkNam {t el : TypeId} {n : Nat} {x y : Operand} {z : AV} (hu : E.und t = some (.slice el)) (hn : E.size el = some n) (hz : zeroA E el = some z)
    (h1 : Nat.beq z.cells.length n = true) (h2 : Nat.ble (bytesO E el) 1000000 = true)
    (hev : mkNam nx n z.cells (getO (q x) L) (getO (q y) L) = some (ob, a)) : Makes P ρ B μ h nx w ⟨d, .makeSlice t x y, ty, pos, af, gd⟩ ob a := by
  have h1 := Nat.eq_of_beq_eq_true h1
  have h2 := Nat.le_of_ble_eq_true h2
  obtain ⟨zv, hzv, rfl⟩ := hE.runZero hz w
  have hzc := ofV_cells (μ := μ) zv
  have hzs : zv.cells.size = n := by have := hzc.length; simp at this; omega
  have hqx := hq x
  have hqy := hq y
  generalize getO (q x) L = X at hev hqx
  generalize getO (q y) L = Y at hev hqy
  unfold mkNam at hev
  split at hev
  · rename_i q0 lo hi q1 lo' hi' hzz
    obtain ⟨g1, hev⟩ := cnd_inv hev
    replace hev := cnd_inv hev
    obtain ⟨g2, hev⟩ := hev
    cases hkz : Key.beq q0 kZ with
    | true => rw [hkz] at hev; cases hev
    | false =>
    rw [hkz] at hev
    replace hev := cnd_inv (show cnd (ile 0 lo) _ none = some (ob, a) from hev)
    obtain ⟨g3, hev⟩ := hev
    replace hev := cnd_inv hev
    obtain ⟨g4, hev⟩ := hev
    replace hev := cnd_inv hev
    obtain ⟨g5, hev⟩ := hev
    simp only [Option.some.injEq, Prod.mk.injEq] at hev
    obtain ⟨rfl, rfl⟩ := hev
    obtain rfl := Nat.eq_of_beq_eq_true g1
    obtain rfl := Key.beq_eq g2
    rw [ile_eq] at g3 g4
    have g3 := of_decide_eq_true g3
    have g4 := of_decide_eq_true g4
    obtain ⟨z0, z1⟩ := isZl_sound hH.fk.rel g5
    simp only [VR, Int.add_zero] at hqx hqy
    obtain ⟨ex, b1, b2⟩ := hqx
    obtain ⟨ey, _, _⟩ := hqy
    obtain ⟨c, hc⟩ : ∃ c : Nat, Val.n q0 = c := ⟨(Val.n q0).toNat, by omega⟩
    rw [hc] at ex ey b2 z1
    have hcc : c ≤ 100000 := by omega
    rw [wrap64_small c hcc] at ex ey
    simp only [Int.toNat_natCast] at z1
    unfold Env.size at hn
    unfold bytesO at h2
    split at hn
    · rename_i i hi
      rw [hi] at h2
      simp only at h2
      have hi' := hE.ts _ _ hi
      simp only [Option.some.injEq] at hn
      have hcells : ∃ cs0 : Array Value, ((if c * i.size = 0 then pure #[] else do pure (← zeroValue el).cells : Sem (Array Value)).run P w = .ok cs0 w) ∧
          ∀ r, r < c → ((Array.range (c * i.size)).map (cs0[· % cs0.size]!))[r]? = some (.int .i64 0) := by
        rw [hn]
        by_cases h0 : c = 0
        · exact ⟨#[], by simp [h0], fun r hr => by omega⟩
        · have hzc1 : zv.cells = #[.int .i64 0] := by
            rw [hzz] at hzc
            obtain ⟨u, r, e1, e2, e3⟩ := hzc.cons_inv
            have e3 := e3.nil_inv
            simp only [VR] at e2
            subst e2 e3
            apply Array.toList_inj.1; rw [e1]
          refine ⟨zv.cells, by simp [h0, hzv], fun r hr => ?_⟩
          rw [hzc1]
          simp [hr, Nat.mod_one]
      obtain ⟨cs0, hr0, hv0⟩ := hcells
      have hrun : (execOp ρ ⟨d, .makeSlice t x y, ty, pos, af, gd⟩).run P w = .ok (.value (.slice (some ⟨w.heap.size, 0, none⟩) c c)) (w.alloc (.cells ((Array.range (c * i.size)).map (cs0[· % cs0.size]!)) el)) := by
        refine run_val (s := Instr.makeSlice t (ρ x) (ρ y)) ?_
        rw [ex, ey]
        exact run_makeSlice (hE.runUnd hu w) hi' (Nat.le_refl _) hcc h2 hr0
      have z := nz_kZ
      have hnz : nz q0 = c := by rw [nz_ne hkz]; exact hc
      refine makes_of hH hnx hB hrun rfl rfl rfl rfl (gen := 0) (n := ((Array.range (c * i.size)).map (cs0[· % cs0.size]!)).size) ?_ ?_
      · simp only [VR]
        refine ⟨_, c, c, rfl, Nat.le_refl _, by omega, by omega, .inr ⟨_, _, _, 0, Mu.ins_same _ _ _ _, by omega, by simp, ?_⟩⟩
        simp [hn]
      · refine ⟨⟨⟨by rw [hnz, z1]; simp, fun row hr => ?_⟩, by simp⟩, ⟨fun g hg => ?_, fun _ => by decide⟩, fun g b s m hm => ?_⟩
        · rw [z1] at hr; rw [(List.mem_replicate.1 hr).2]; rfl
        · rw [Mu.ins_other _ (.inr (by omega))]; exact hH.noneAt hnx g
        · rcases Mu.ins_inv hm with ⟨_, rfl, e1⟩ | k1
          · cases e1
            refine ⟨⟨fun _ => hB, fun hh => (by cases hh)⟩, _, el, (0, 0), (by show (w.heap.push _)[w.heap.size]? = _; rw [Array.getElem?_push]; simp), fun _ => rfl, rfl, fun r row hrow j v hj => ?_, fun _ i l hi => by simp at hi⟩
            rw [z1] at hrow
            have hlt := (List.getElem?_eq_some_iff.1 hrow).1
            simp only [List.length_replicate] at hlt
            rw [List.getElem?_replicate, if_pos hlt] at hrow
            cases hrow
            cases j with
            | zero => simp at hj; subst hj; simpa using hv0 r hlt
            | succ j => simp at hj
          · rw [hH.noneAt hnx g] at k1; cases k1
    · cases hn
  · cases hev
theorem heap_new {o : Obj} {w : World} : (w.alloc o).heap[w.heap.size]? = some o := by
  show (w.heap.push o)[w.heap.size]? = _
  rw [Array.getElem?_push]; simp
theorem shape_new {cs : Array Value} {e : TypeId} {w : World} : (w.alloc (.cells cs e)).shape? w.heap.size = some (e, cs.size) := by
  unfold World.shape?
  rw [heap_new]
theorem byteCells_get : ∀ (s : List Nat) (i : Nat), (byteCells s)[i]? = (s[i]?).map fun b => .int .u8 (.ofNat b)
  | [], i => by simp [byteCells]
  | b :: s, 0 => by simp [byteCells]
  | b :: s, i + 1 => by simp only [byteCells, List.getElem?_cons_succ]; exact byteCells_get s i
theorem byteCells_length : ∀ (s : List Nat), (byteCells s).length = s.length
  | [] => rfl
  | b :: s => by simp [byteCells, byteCells_length s]
include hE hH hnx hB hq in
theorem a_s2b {s t e : TypeId} {x : Operand} (h1 : E.und s = some .string) (h2 : E.und t = some (.slice e)) (h0 : isU8 E e = true)
    (hev : (AI.s2b (q x)).ev h nx L = some (ob, a)) : Makes P ρ B μ h nx w ⟨d, .convert s t x, ty, pos, af, gd⟩ ob a := by
  have he : E.und e = some (.int .u8) := by
    unfold isU8 at h0
    split at h0
    · assumption
    · cases h0
  obtain ⟨str, hs, hev⟩ := asStr_some (show asStr (getO (q x) L) none (fun s => some (bytesOb s, AV.slice nx strGen 0 s.length s.length 1 false)) = some (ob, a) from hev)
  simp only [Option.some.injEq, Prod.mk.injEq] at hev
  obtain ⟨rfl, rfl⟩ := hev
  obtain ⟨b, hx, hb⟩ := q_str hq hs
  have hlen : str.length = b.size := by rw [← hb]; simp
  generalize hcap : (Question.appendCap b.size 0 e).cut (w.tape w.drawn (.appendCap b.size 0 e)) = cp
  have hcp : b.size ≤ cp := by rw [← hcap]; simp [Question.cut]
  generalize hcs : (b.data.map fun b => Value.int .u8 b.toNat) ++ Array.replicate (cp - b.size) (.int .u8 0) = cs
  have hsz : cs.size = cp := by rw [← hcs]; simp; omega
  have hrun : (execOp ρ ⟨d, .convert s t x, ty, pos, af, gd⟩).run P w = .ok (.value (.slice (some ⟨w.heap.size, 0, none⟩) b.size cp)) ((w.drew.alloc (.cells cs e)).freeze ⟨w.heap.size, cs.size, none⟩ 1) := by
    refine run_val (s := convert s t (ρ x)) ?_
    rw [hx]
    have hf : (Question.appendCap b.size 0 e).forced = false := rfl
    simp only [convert, Sem.run_bind, hE.runUnd h1, hE.runUnd h2, hE.runUnd he, Result.andThen_ok, Conv.stringToBytes, run_choose_drew, hf, Bool.false_eq_true, if_false, hcap, hcs, newRow, run_newObj_alloc, Sem.run_pure, markStringish, run_shape]
    have hshape : (w.drew.alloc (.cells cs e)).shape? w.drew.heap.size = some (e, cs.size) := shape_new
    simp only [hshape, Sem.run_bind, run_freeze, Result.andThen_ok, Sem.run_pure]
    rfl
  have hheap : ((w.drew.alloc (.cells cs e)).freeze ⟨w.heap.size, cs.size, none⟩ 1).heap = w.heap.push (.cells cs e (cs.size, cs.size + 1)) := by
    simp only [World.freeze, Nat.one_ne_zero, if_false, World.alloc, World.drew]
    apply Array.ext_getElem?
    intro i
    simp only [Array.getElem?_modify, Array.getElem?_push]
    by_cases hi : i = w.heap.size
    · subst hi; simp
    · simp only [hi, if_false, Ne.symm hi]
  refine makes_of hH hnx hB hrun hheap rfl rfl rfl (n := cs.size) (gen := strGen) (by rw [← hlen]; exact vr_newSl (Nat.le_refl _) (by omega) (fun h => by cases h) (by omega)) ?_
  refine new_cells hH hnx hB hheap (.inr ⟨Nat.le_refl _, rfl⟩) (Tr.ofList_wf _ _) (fun r hr => ?_) (fun r l' gw hg => ?_)
  · cases hg : (Tr.ofList (depthFor str.length 25 0) (chunks 1 str.length (byteCells str))).get r with
    | none => rfl
    | some x =>
      have := Tr.ofList_some _ _ _ _ hg
      have := (List.getElem?_eq_some_iff.1 this).1
      rw [chunks_length] at this; omega
  · refine ⟨(chunks_get _ _ _ _ _ _ (Tr.ofList_some _ _ _ _ hg)).2.1, chunk_row (by rw [byteCells_length]; omega) ?_ (Tr.ofList_some _ _ _ _ hg)⟩
    intro i a hi
    rw [byteCells_get] at hi
    cases hsi : str[i]? with
    | none => rw [hsi] at hi; cases hi
    | some c =>
      rw [hsi] at hi
      cases hi
      have hil : i < b.size := by have := (List.getElem?_eq_some_iff.1 hsi).1; omega
      refine ⟨.int .u8 c, ?_, by simp only [VR]; rfl⟩
      rw [← hcs, Array.getElem?_append_left (by simpa using hil)]
      rw [← hb, List.getElem?_map, Array.getElem?_toList] at hsi
      rw [Array.getElem?_map]
      cases hd : b.data[i]? with
      | none => rw [hd] at hsi; cases hsi
      | some u => rw [hd] at hsi; simp only [Option.map_some, Option.some.injEq] at hsi; subst hsi; rfl
include hE hH hnx hB hq in
theorem a_rangeS {t : TypeId} {x : Operand} (h1 : E.und t = some .string) (hev : (AI.rangeS (q x)).ev h nx L = some (ob, a)) : Makes P ρ B μ h nx w ⟨d, .range t x, ty, pos, af, gd⟩ ob a := by
  obtain ⟨str, hs, hev⟩ := asStr_some (show asStr (getO (q x) L) none (fun s => some (Ob.strIter s 0, AV.ptr nx 0 0)) = some (ob, a) from hev)
  simp only [Option.some.injEq, Prod.mk.injEq] at hev
  obtain ⟨rfl, rfl⟩ := hev
  obtain ⟨b, hx, hb⟩ := q_str hq hs
  have hrun : (execOp ρ ⟨d, .range t x, ty, pos, af, gd⟩).run P w = .ok (.value (.pointer (some ⟨w.heap.size, 0, none⟩))) (w.alloc (.stringIter b 0)) := by
    refine run_val (s := Instr.range t (ρ x)) ?_
    rw [hx]
    simp only [Instr.range, Sem.run_bind, hE.runUnd h1, Result.andThen_ok, Sem.run_pure, run_newObj_alloc]
  refine makes_of hH hnx hB hrun rfl rfl rfl rfl (n := 0) (gen := 0) (vr_new (gen := 0)) ⟨fun g hg => ?_, fun b' s n hm => ?_⟩
  · rw [Mu.ins_other _ (.inr (by omega))]; exact hH.noneAt hnx g
  · rcases Mu.ins_inv hm with ⟨_, _, e1⟩ | k1
    · cases e1
      exact ⟨hB, rfl, b, heap_new, hb⟩
    · rw [hH.noneAt hnx 0] at k1; cases k1
include hE hH hnx hB hq in
theorem a_rangeM {t kt el : TypeId} {x : Operand} (h1 : E.und t = some (.map kt el)) (hev : (AI.rangeM (q x)).ev h nx L = some (ob, a)) : Makes P ρ B μ h nx w ⟨d, .range t x, ty, pos, af, gd⟩ ob a := by
  have hxx := hq x
  have hev' : (match getO (q x) L with
    | .map0 => some (Ob.mapIter none 0 [] 0, AV.ptr nx 0 0)
    | .map f => asMapO (hget f h) none fun _ clock => some (Ob.mapIter (some f) clock [] clock, AV.ptr nx 0 0)
    | _ => none : Option (Ob × AV)) = some (ob, a) := hev
  split at hev'
  · rename_i e
    rw [e] at hxx; simp only [VR] at hxx
    simp only [Option.some.injEq, Prod.mk.injEq] at hev'
    obtain ⟨rfl, rfl⟩ := hev'
    have hrun : (execOp ρ ⟨d, .range t x, ty, pos, af, gd⟩).run P w = .ok (.value (.pointer (some ⟨w.heap.size, 0, none⟩))) (w.alloc (.mapIter none 0 #[] 0)) := by
      refine run_val (s := Instr.range t (ρ x)) ?_
      rw [hxx]
      simp only [Instr.range, Sem.run_bind, hE.runUnd h1, Result.andThen_ok, Sem.run_pure, run_newObj_alloc]
    refine makes_of hH hnx hB hrun rfl rfl rfl rfl (n := 0) (gen := 0) (vr_new (gen := 0)) ⟨fun g hg => ?_, fun b' s n hm => ?_⟩
    · rw [Mu.ins_other _ (.inr (by omega))]; exact hH.noneAt hnx g
    · rcases Mu.ins_inv hm with ⟨_, _, e1⟩ | k1
      · cases e1
        exact ⟨hB, rfl, none, heap_new, rfl⟩
      · rw [hH.noneAt hnx 0] at k1; cases k1
  · rename_i f e
    rw [e] at hxx; simp only [VR] at hxx
    obtain ⟨b, s, n, hm, hx⟩ := hxx
    obtain ⟨es, clock, ho, hev'⟩ := asMapO_some hev'
    simp only [Option.some.injEq, Prod.mk.injEq] at hev'
    obtain ⟨rfl, rfl⟩ := hev'
    obtain ⟨hb, es', hes, _⟩ := hH.mapOb ho hm
    have hrun : (execOp ρ ⟨d, .range t x, ty, pos, af, gd⟩).run P w = .ok (.value (.pointer (some ⟨w.heap.size, 0, none⟩))) (w.alloc (.mapIter (some b) clock #[] clock)) := by
      refine run_val (s := Instr.range t (ρ x)) ?_
      rw [hx]
      simp only [Instr.range, Sem.run_bind, hE.runUnd h1, Result.andThen_ok, Sem.run_pure, MapKept.run_getObj_map hes, run_newObj_alloc]
    refine makes_of hH hnx hB hrun rfl rfl rfl rfl (n := 0) (gen := 0) (vr_new (gen := 0)) ⟨fun g hg => ?_, fun b' s' n' hm' => ?_⟩
    · rw [Mu.ins_other _ (.inr (by omega))]; exact hH.noneAt hnx g
    · rcases Mu.ins_inv hm' with ⟨_, _, e1⟩ | k1
      · cases e1
        exact ⟨hB, rfl, some b, heap_new, b, s, n, (Mu.ins_le (hH.noneAt hnx 0) _) _ _ _ hm, rfl⟩
      · rw [hH.noneAt hnx 0] at k1; cases k1
  · cases hev'
include hE hH hnx hB hq in
theorem alloc_sound {op : Op} (hev : (allocI q E op).ev h nx L = some (ob, a)) : Makes P ρ B μ h nx w ⟨d, op, ty, pos, af, gd⟩ ob a := by
  unfold allocI at hev
  split at hev
  · split at hev
    · rename_i z hz
      have : some (allocOb E _ z, AV.ptr nx 0 0) = some (ob, a) := hev
      simp only [Option.some.injEq, Prod.mk.injEq] at this
      obtain ⟨rfl, rfl⟩ := this
      exact a_alloc hE hH hnx hB hz
    · cases hev
  · split at hev
    · split at hev <;> exact a_box hH hnx hB hq hev
    · exact a_box hH hnx hB hq hev
  · split at hev
    · rename_i el hu
      split at hev
      · rename_i n z hn hz
        cases hb : Nat.beq z.cells.length n && Nat.ble (_ * n) 16777216 with
        | false => rw [hb] at hev; cases hev
        | true =>
          rw [hb] at hev
          simp only [cond_true] at hev
          simp only [Bool.and_eq_true] at hb
          split at hev
          · rename_i l hl; exact a_bslice hE hH hnx hB hq hu hn hz hb.1 hb.2 hl hev
          · cases hev
      · cases hev
    · cases hev
  · split at hev
    · have : some (Ob.map [] 0, AV.map nx) = some (ob, a) := hev
      simp only [Option.some.injEq, Prod.mk.injEq] at this
      obtain ⟨rfl, rfl⟩ := this
      exact a_mkMap hH hnx hB hq (fun y hy => by cases hy) (fun hh => by cases hh)
    · rename_i x
      split at hev
      · rename_i kt el hu
        obtain ⟨k, n, hs, hev⟩ := asInt_some (show asInt (getO (q x) L) none (fun _ _ => some (Ob.map [] 0, AV.map nx)) = some (ob, a) from hev)
        simp only [Option.some.injEq, Prod.mk.injEq] at hev
        obtain ⟨rfl, rfl⟩ := hev
        exact a_mkMap hH hnx hB hq (fun y hy => by cases hy; exact ⟨k, n, q_int hq hs⟩) (fun _ => ⟨kt, el, hE.und hu⟩)
      · cases hev
  · split at hev
    · rename_i el hu
      split at hev
      · rename_i n z hn hz
        cases hb : Nat.beq z.cells.length n && Nat.ble (bytesO E el) 1000000 with
        | false => rw [hb] at hev; cases hev
        | true =>
          rw [hb] at hev
          simp only [Bool.and_eq_true] at hb
          exact a_mkSlice hE hH hnx hB hq hu hn hz hb.1 hb.2 hev
      · cases hev
    · cases hev
  · rename_i s t x
    cases hb : convB E s t with
    | false => rw [hb] at hev; cases hev
    | true =>
      rw [hb] at hev
      unfold convB at hb
      split at hb
      · rename_i e hu
        simp only [Bool.and_eq_true] at hb
        obtain ⟨b1, b2⟩ := hb
        split at b2
        · rename_i hs; exact a_s2b hE hH hnx hB hq hs hu b1 hev
        · cases b2
      · cases hb
  · split at hev
    · rename_i hu; exact a_rangeS hE hH hnx hB hq hu hev
    · rename_i kt el hu; exact a_rangeM hE hH hnx hB hq hu hev
    · cases hev
  · cases hev
end
end Go.Ev

namespace Go.Ev
set_option linter.unusedVariables false
set_option linter.unusedSectionVars false
set_option linter.unusedSimpArgs false
variable [Val] [Fk]
def spliceA (cs : Array Value) (i : Nat) : List Value → Array Value
  | [] => cs
  | v :: vs => spliceA (cs.setIfInBounds i v) (i + 1) vs
theorem spliceA_size : ∀ (vs : List Value) (cs : Array Value) (i : Nat), (spliceA cs i vs).size = cs.size
  | [], cs, i => rfl
  | v :: vs, cs, i => by rw [spliceA, spliceA_size vs]; simp
theorem spliceA_get : ∀ (vs : List Value) (cs : Array Value) (i j : Nat), i + vs.length ≤ cs.size → (spliceA cs i vs)[j]? = if i ≤ j ∧ j < i + vs.length then vs[j - i]? else cs[j]?
  | [], cs, i, j, h => by simp [spliceA]; intro h1 h2; omega
  | v :: vs, cs, i, j, h => by
    simp only [List.length_cons] at h
    rw [spliceA, spliceA_get vs _ (i + 1) j (by simp; omega)]
    by_cases h1 : i + 1 ≤ j ∧ j < i + 1 + vs.length
    · rw [if_pos h1, if_pos (by simp; omega), show j - i = (j - (i + 1)) + 1 by omega]; simp
    · rw [if_neg h1, Array.getElem?_setIfInBounds]
      by_cases h2 : i = j
      · subst h2
        have h3 : i < cs.size := by omega
        simp [h3]
      · rw [if_neg h2, if_neg (by simp; omega)]
def World.put (w : World) (b : Nat) (o : Obj) : World := { w with heap := w.heap.setIfInBounds b o }
theorem setCell_put {w : World} {b i : Nat} {cs : Array Value} {e : TypeId} {fz : Nat × Nat} (hb : w.heap[b]? = some (.cells cs e fz)) (v : Value) :
    w.setCell ⟨b, i, none⟩ v = World.put w b (.cells (cs.setIfInBounds i v) e fz) := by
  unfold World.setCell World.put
  congr 1
  apply Array.ext_getElem?
  intro k
  obtain ⟨hlt, he⟩ := Array.getElem?_eq_some_iff.1 hb
  rw [Array.getElem?_modify, Array.getElem?_setIfInBounds]
  by_cases hk : b = k
  · subst hk; simp [he, hlt]
  · simp [hk]
theorem put_put {w : World} {b : Nat} {o o' : Obj} : World.put (World.put w b o) b o' = World.put w b o' := by
  unfold World.put
  simp
theorem put_get {w : World} {b : Nat} {o : Obj} (h : b < w.heap.size) : (World.put w b o).heap[b]? = some o := by
  simp [World.put, h]
theorem run_storeCells' {P : Program} {b e g : Nat} {fz : Nat × Nat} : ∀ (vs : List Value) (k x : Nat) (cs : Array Value) (w : World), w.heap[b]? = some (.cells cs e fz) → FzOk g cs fz → x + k + vs.length ≤ cs.size → (∀ v ∈ vs, v.oneCell' = true) →
    (storeCells ⟨b, x, none⟩ vs k).run P w = .ok () (World.put w b (.cells (spliceA cs (x + k) vs) e fz))
  | [], k, x, cs, w, hb, hf, hle, ho => by
    simp only [storeCells, Sem.run_pure, spliceA, Result.ok.injEq, true_and]
    unfold World.put
    obtain ⟨hlt, he⟩ := Array.getElem?_eq_some_iff.1 hb
    have : w.heap.setIfInBounds b (.cells cs e fz) = w.heap := by
      apply Array.ext_getElem?
      intro j
      rw [Array.getElem?_setIfInBounds]
      by_cases hj : b = j
      · subst hj; simp [hlt, he]
      · simp [hj]
    rw [this]
  | v :: vs, k, x, cs, w, hb, hf, hle, ho => by
    simp only [List.length_cons] at hle
    have ha : (⟨b, x, none⟩ : Addr).add k = ⟨b, x + k, none⟩ := add_zero_spot b x k
    have hlt : b < w.heap.size := (Array.getElem?_eq_some_iff.1 hb).1
    have hc : ∃ u, w.cell? ⟨b, x + k, none⟩ = some u := by
      rw [cell?_of_block hb, Array.getElem?_eq_getElem (by omega)]; exact ⟨_, rfl⟩
    obtain ⟨u, hu⟩ := hc
    have hfr := frozen?_of_block hb hf (i := x + k) (by omega)
    simp only [storeCells, Sem.run_bind, ha, run_store _ _ _ _ _ (ho v (by simp)), hu, hfr, Bool.false_eq_true, if_false, Result.andThen_ok, setCell_put hb]
    have hf' : FzOk g (cs.setIfInBounds (x + k) v) fz := by
      rcases hf with h0 | ⟨h0, h1⟩
      · exact .inl h0
      · exact .inr ⟨h0, by simpa using h1⟩
    rw [run_storeCells' vs (k + 1) x _ _ (put_get hlt) hf' (by simp; omega) (fun v hv => ho v (by simp [hv])), put_put]
    rfl
theorem oneCell_of {v : Value} (h : isScalar v) : v.oneCell' = true := by cases v <;> first | rfl | cases h
theorem allScalar_of {μ : Mu} : ∀ {l : List AV} {vs : List Value}, allScalar l = true → VRs μ l vs → ∀ v ∈ vs, v.oneCell' = true
  | [], vs, _, hv => by rw [hv.nil_inv]; simp
  | a :: l, vs, ha, hv => by
    obtain ⟨v, r, rfl, h1, h2⟩ := hv.cons_inv
    have ha : cnd a.scalar (allScalar l) false = true := ha
    rw [cnd_eq] at ha
    split at ha
    · rename_i hs
      intro y hy
      rcases List.mem_cons.1 hy with rfl | hy
      · exact oneCell_of (scalar_not h1 hs)
      · exact allScalar_of ha h2 y hy
    · cases ha
theorem Ext.put {B : Nat} {w : World} {b : Nat} {o : Obj} (h : B ≤ b) : Ext B w (World.put w b o) :=
  ⟨rfl, rfl, rfl, by simp [World.put], fun k hk => by simp only [World.put]; rw [Array.getElem?_setIfInBounds_ne (by omega)]⟩
theorem setNth_eq : ∀ (v : AV) (l : List AV) (j : Nat), setNth v l j = l.set j v
  | v, [], j => rfl
  | v, a :: l, 0 => rfl
  | v, a :: l, j + 1 => by show a :: setNth v l j = _; rw [setNth_eq v l j]; rfl
/-! ## rows written over -/
theorem overRows_sound {dp gw : Nat} : ∀ (ls : List (List AV)) (c : Tr Row) (r : Nat) (c' : Tr Row), Tr.Wf dp c → overRows dp gw c r ls = some c' →
    Tr.Wf dp c' ∧ (∀ k, c'.get k = if r ≤ k ∧ k < r + ls.length then (ls[k - r]?).map (Row.mk · gw) else c.get k) ∧ ∀ i, i < ls.length → ∃ l g0, c.get (r + i) = some (.mk l g0) ∧ g0 ≤ gw
  | [], c, r, c', hw, h => by
    cases h
    refine ⟨hw, fun k => ?_, fun i hi => by simp at hi⟩
    rw [if_neg (by simp only [List.length_nil]; omega)]
  | l :: ls, c, r, c', hw, h => by
    unfold overRows at h
    split at h
    · rename_i l0 g0 hr
      obtain ⟨hg, h⟩ := cnd_inv h
      have hlt := Tr.lt_of_get dp c r _ hw hr
      obtain ⟨h1, h2, h3⟩ := overRows_sound ls _ (r + 1) c' (Tr.set_wf dp c r _ hw) h
      refine ⟨h1, fun k => ?_, fun i hi => ?_⟩
      · rw [h2]
        simp only [List.length_cons]
        by_cases hk : r + 1 ≤ k ∧ k < r + 1 + ls.length
        · rw [if_pos hk, if_pos (by omega), show k - r = (k - (r + 1)) + 1 by omega]; simp
        · rw [if_neg hk, Tr.get_set dp c r k _ hw hlt]
          by_cases hkr : k = r
          · subst hkr; rw [if_pos rfl, if_pos (by omega)]; simp
          · rw [if_neg hkr, if_neg (by omega)]
      · cases i with
        | zero => exact ⟨l0, g0, hr, Nat.le_of_ble_eq_true hg⟩
        | succ i =>
          simp only [List.length_cons] at hi
          obtain ⟨l1, g1, e1, e2⟩ := h3 i (by omega)
          rw [Tr.get_set dp c r _ _ hw hlt] at e1
          rw [if_neg (by omega)] at e1
          exact ⟨l1, g1, by rw [← e1]; congr 1; omega, e2⟩
    · cases h
theorem flat_get {sz : Nat} : ∀ (ls : List (List AV)) (i j : Nat) (l : List AV), (∀ l ∈ ls, l.length = sz) → ls[i]? = some l → j < sz → (flat ls)[i * sz + j]? = l[j]?
  | [], i, j, l, _, h, _ => by simp at h
  | l0 :: ls, 0, j, l, hl, h, hj => by
    simp at h; subst h
    simp only [flat, Nat.zero_mul, Nat.zero_add]
    rw [List.getElem?_append_left (by rw [hl _ (by simp)]; exact hj)]
  | l0 :: ls, i + 1, j, l, hl, h, hj => by
    simp only [flat]
    rw [List.getElem?_append_right (by rw [hl _ (by simp), Nat.add_mul]; omega), hl l0 (by simp)]
    rw [show (i + 1) * sz + j - sz = i * sz + j by rw [Nat.add_mul]; omega]
    exact flat_get ls i j l (fun l hl' => hl l (by simp [hl'])) (by simpa using h) hj
theorem flat_length {sz : Nat} : ∀ (ls : List (List AV)), (∀ l ∈ ls, l.length = sz) → (flat ls).length = ls.length * sz
  | [], _ => by simp [flat]
  | l :: ls, h => by
    simp only [flat, List.length_append, flat_length ls (fun l hl => h l (by simp [hl])), h l (by simp), List.length_cons]
    rw [Nat.add_mul]; omega
section
variable {E : Env} {P : Program} (hE : EnvOk E P) {B : Nat} {μ : Mu} {h : Hp} {w : World} (hH : HR B μ h w)
theorem rowSplice {cs : Array Value} {s sz r m : Nat} {old l : List AV} {vs : List Value} (hs : s ≤ r * sz) (hr : RowR μ cs s sz r old) (hv : VRs μ l vs) (hm : m + l.length ≤ sz) (hle : r * sz + m - s + vs.length ≤ cs.size) :
    RowR μ (spliceA cs (r * sz + m - s) vs) s sz r (putAt old m l) := by
  obtain ⟨h1, h2, h3⟩ := hr
  have hlv := hv.length
  refine ⟨h1, by simp only [putAt, List.length_append, List.length_take, List.length_drop]; omega, fun j a hj => ?_⟩
  rw [spliceA_get _ _ _ _ hle]
  simp only [putAt] at hj
  by_cases c1 : j < m
  · rw [List.append_assoc, List.getElem?_append_left (by simp; omega), List.getElem?_take, if_pos c1] at hj
    rw [if_neg (by omega)]
    exact h3 j a hj
  · by_cases c2 : j < m + l.length
    · rw [List.append_assoc, List.getElem?_append_right (by simp; omega), List.getElem?_append_left (by simp; omega)] at hj
      rw [if_pos (by omega)]
      obtain ⟨v, e1, e2⟩ := hv.get hj
      refine ⟨v, ?_, e2⟩
      rw [← e1]; congr 1; simp; omega
    · rw [List.getElem?_append_right (by simp; omega), List.getElem?_drop] at hj
      rw [if_neg (by omega)]
      refine h3 j a ?_
      rw [← hj]; congr 1; simp; omega
theorem mul_le_of_lt {a b sz : Nat} (h : a < b) : a * sz + sz ≤ b * sz := by
  have := Nat.mul_le_mul_right sz h
  rw [Nat.succ_mul] at this; exact this
theorem overRows_HR (hH : HR B μ h w) {f : Key} {gen sz dp ext : Nat} {c c' : Tr Row} (ho : hget f h = .cells false gen sz dp ext c) {b s n r : Nat} (hm : μ f gen = some (b, s, n)) (hs : s ≤ r * sz)
    {ls : List (List AV)} (hov : overRows dp gen c r ls = some c') (hlen : ∀ l ∈ ls, l.length = sz) (hpos : 0 < ls.length) (hsz0 : 0 < sz) {vs : List Value} (hv : VRs μ (flat ls) vs)
    {cs : Array Value} {e : TypeId} {fz : Nat × Nat} (hheap : w.heap[b]? = some (.cells cs e fz)) :
    r * sz - s + vs.length ≤ cs.size ∧ HR B μ (hset f (.cells false gen sz dp ext c') h) (World.put w b (.cells (spliceA cs (r * sz - s) vs) e fz)) := by
  obtain ⟨hwf, hgen, hb⟩ := hH.cells ho
  obtain ⟨hB, hs0, cs1, e1, fz1, h1, hfz, hsz, hrows⟩ := hb gen b s n hm
  rw [hheap] at h1
  simp only [Option.some.injEq, Obj.cells.injEq] at h1
  obtain ⟨rfl, rfl, rfl⟩ := h1
  obtain ⟨k1, k2, k3⟩ := overRows_sound ls c r c' hwf.1 hov
  have hvl : vs.length = ls.length * sz := by rw [← hv.length, flat_length ls hlen]
  have hroom : r * sz - s + vs.length ≤ cs.size := by
    obtain ⟨k, hk⟩ : ∃ k, ls.length = k + 1 := ⟨ls.length - 1, by omega⟩
    obtain ⟨l, g0, e1, e2⟩ := k3 k (by omega)
    have hsk : s ≤ (r + k) * sz := Nat.le_trans hs (Nat.mul_le_mul_right sz (by omega))
    obtain ⟨_, q2, q3⟩ := hrows _ _ _ e1 e2 hsk
    obtain ⟨v, q4, _⟩ := q3 (sz - 1) (l[sz - 1]'(by omega)) (List.getElem?_eq_getElem (by omega))
    have q5 := (Array.getElem?_eq_some_iff.1 q4).1
    rw [hvl, hk]
    have : (r + k) * sz = r * sz + k * sz := Nat.add_mul _ _ _
    have : (k + 1) * sz = k * sz + sz := by rw [Nat.add_mul]; omega
    omega
  refine ⟨hroom, hH.write ho hm hheap (spliceA_size _ _ _) rfl k1 (fun k hk => ?_) (fun k l gw hg => ?_)⟩
  · rw [k2]
    split
    · rename_i hh
      obtain ⟨l, g0, e1, _⟩ := k3 (k - r) (by omega)
      rw [show r + (k - r) = k by omega, hwf.2 k hk] at e1; cases e1
    · exact hwf.2 k hk
  · rw [k2] at hg
    split at hg
    · rename_i hh
      right
      cases hls : ls[k - r]? with
      | none => rw [hls] at hg; cases hg
      | some l1 =>
        rw [hls] at hg
        simp only [Option.map_some, Option.some.injEq, Row.mk.injEq] at hg
        obtain ⟨rfl, rfl⟩ := hg
        refine ⟨rfl, fun hsk => ⟨hsk, hlen _ (List.mem_of_getElem? hls), fun j a hj => ?_⟩⟩
        have hjl : j < sz := by have := (List.getElem?_eq_some_iff.1 hj).1; rw [hlen _ (List.mem_of_getElem? hls)] at this; exact this
        have hf := flat_get ls (k - r) j l1 hlen hls hjl
        rw [hj] at hf
        obtain ⟨v, e1, e2⟩ := hv.get hf
        refine ⟨v, ?_, e2⟩
        have hkr : k * sz = r * sz + (k - r) * sz := by rw [← Nat.add_mul]; congr 1; omega
        have hin : (k - r) * sz + j < vs.length := (List.getElem?_eq_some_iff.1 e1).1
        rw [spliceA_get _ _ _ _ hroom, if_pos (by omega), ← e1]
        congr 1; omega
    · rename_i hh
      left
      refine ⟨hg, fun hsk j hj => ?_⟩
      rw [spliceA_get _ _ _ _ hroom, if_neg]
      rintro ⟨q1, q2⟩
      rcases Nat.lt_or_ge k r with h1 | h1
      · have := mul_le_of_lt (sz := sz) h1; omega
      · have h2 : r + ls.length ≤ k := by omega
        have := Nat.mul_le_mul_right sz h2
        rw [Nat.add_mul] at this; omega
theorem cutR_len : ∀ (sz n : Nat) (l : List AV), l.length = n * sz → (cutR sz n l).length = n ∧ (∀ x ∈ cutR sz n l, x.length = sz) ∧ flat (cutR sz n l) = l
  | sz, 0, l, h => by
    have : l = [] := List.length_eq_zero_iff.1 (by simpa using h)
    subst this; simp [cutR, flat]
  | sz, n + 1, l, h => by
    rw [Nat.add_mul, Nat.one_mul] at h
    obtain ⟨h1, h2, h3⟩ := cutR_len sz n (l.drop sz) (by simp; omega)
    refine ⟨by simp [cutR, h1], fun x hx => ?_, by simp [cutR, flat, h3]⟩
    simp only [cutR, List.mem_cons] at hx
    rcases hx with rfl | hx
    · simp; omega
    · exact h2 x hx
include hH in
theorem storeC_sound {f : Key} {g o n b s nn : Nat} {l : List AV} {vs : List Value} {h' : Hp} (hm : μ f g = some (b, s, nn)) (hs : s ≤ o) (hst : storeC h f g o n l = some h') (hl : l.length = n) (hn : 0 < n)
    (hv : VRs μ l vs) (ho1 : ∀ v ∈ vs, v.oneCell' = true) :
    ∃ w', (storeCells ⟨b, o - s, none⟩ vs).run P w = .ok () w' ∧ HR B μ h' w' ∧ Ext B w w' ∧ Kp h μ h' μ := by
  obtain ⟨ro, gen, sz, dp, ext, c, ho, hst⟩ := asCells_some hst
  obtain ⟨hro, hst⟩ := cnd_inv' hst
  subst hro
  obtain ⟨hg, hst⟩ := cnd_inv hst
  have hg := Nat.eq_of_beq_eq_true hg
  subst hg
  obtain ⟨hwf, hgen, hb⟩ := hH.cells ho
  obtain ⟨hB, hs0, cs, e, fz, hheap, hfz, hsz, hrows⟩ := hb g b s nn hm
  have hsr := start_le hs0 hs
  have e1 : o / sz * sz + o % sz = o := Nat.div_add_mod' o sz
  have hvl := hv.length
  have fin : ∀ h', o - s + vs.length ≤ cs.size → HR B μ h' (World.put w b (.cells (spliceA cs (o - s) vs) e fz)) → Kp h μ h' μ →
      ∃ w', (storeCells ⟨b, o - s, none⟩ vs).run P w = .ok () w' ∧ HR B μ h' w' ∧ Ext B w w' ∧ Kp h μ h' μ := fun h' hr hh hk =>
    ⟨_, run_storeCells' vs 0 (o - s) cs w hheap hfz (by omega) ho1, hh, Ext.put (hB rfl), hk⟩
  by_cases hin : Nat.ble (Nat.add (Nat.mod o sz) n) sz = true
  · rw [hin] at hst
    obtain ⟨⟨old, gw⟩, hr, hst⟩ := opt_inv (show opt _ none _ = some h' from hst)
    obtain ⟨hgw, hst⟩ := cnd_inv hst
    have hgw := Nat.le_of_ble_eq_true hgw
    have hle : o % sz + n ≤ sz := Nat.le_of_ble_eq_true hin
    have hrr : c.get (o / sz) = some (.mk old gw) := hr
    have hR := hrows _ _ _ hrr hgw hsr
    have hlt := Tr.lt_of_get dp c _ _ hwf.1 hrr
    have hput : cnd (Nat.beq n sz) l (putAt old (Nat.mod o sz) l) = putAt old (o % sz) l := by
      cases hns : Nat.beq n sz with
      | false => rfl
      | true =>
        have := Nat.eq_of_beq_eq_true hns
        have h0 : o % sz = 0 := by omega
        show l = _
        rw [h0]
        simp only [putAt, List.take_zero, List.nil_append, Nat.zero_add]
        rw [List.drop_eq_nil_of_le (by rw [hR.2.1]; omega), List.append_nil]
    have hroom : o - s + vs.length ≤ cs.size := by
      obtain ⟨v, q4, _⟩ := hR.2.2 (o % sz + n - 1) (old[o % sz + n - 1]'(by rw [hR.2.1]; omega)) (List.getElem?_eq_getElem (by rw [hR.2.1]; omega))
      have q5 := (Array.getElem?_eq_some_iff.1 q4).1
      omega
    have hst' : hset f (.cells false g sz dp ext (c.set dp (o / sz) (.mk (putAt old (o % sz) l) g))) h = h' := by
      rw [← hput]; exact Option.some.inj hst
    rw [← hst']
    refine fin _ hroom (hH.write ho hm hheap (spliceA_size _ _ _) rfl (Tr.set_wf _ _ _ _ hwf.1) (fun k hk => ?_) (fun k l1 gw1 hg1 => ?_)) (Kp.set rfl)
    · rw [Tr.get_set dp c _ _ _ hwf.1 hlt]
      split
      · rename_i hkr; subst hkr; rw [hwf.2 _ hk] at hrr; cases hrr
      · exact hwf.2 k hk
    · rw [Tr.get_set dp c _ _ _ hwf.1 hlt] at hg1
      split at hg1
      · rename_i hkr
        subst hkr
        simp only [Option.some.injEq, Row.mk.injEq] at hg1
        obtain ⟨rfl, rfl⟩ := hg1
        right
        refine ⟨rfl, fun _ => ?_⟩
        have hi : o - s = o / sz * sz + o % sz - s := by omega
        rw [hi]
        exact rowSplice hsr hR hv (by omega) (by omega)
      · rename_i hkr
        left
        refine ⟨hg1, fun hsk j hj => ?_⟩
        rw [spliceA_get _ _ _ _ hroom, if_neg]
        rintro ⟨q1, q2⟩
        rcases Nat.lt_or_ge k (o / sz) with h1 | h1
        · have := mul_le_of_lt (sz := sz) h1; omega
        · have := mul_le_of_lt (sz := sz) (show o / sz < k by omega); omega
  · have hin' := Bool.eq_false_iff.2 hin
    rw [hin'] at hst
    obtain ⟨h0, hst⟩ := cnd_inv (show cnd _ _ none = some h' from hst)
    obtain ⟨h0', hst⟩ := cnd_inv hst
    obtain ⟨c', hov, hst⟩ := opt_inv hst
    have h0 : o % sz = 0 := Nat.eq_of_beq_eq_true h0
    have h0' : n % sz = 0 := Nat.eq_of_beq_eq_true h0'
    have hszp : 0 < sz := by
      rcases Nat.eq_zero_or_pos sz with hz | hz
      · subst hz; simp at h0'; omega
      · exact hz
    have e2 : n / sz * sz = n := by have := Nat.div_add_mod' n sz; omega
    obtain ⟨l1, l2, l3⟩ := cutR_len sz (n / sz) l (by omega)
    have hnp : 0 < n / sz := Nat.div_pos (by
      have : ¬ (o % sz + n ≤ sz) := fun hh => hin (Nat.ble_eq_true_of_le hh)
      omega) hszp
    obtain ⟨r1, r2⟩ := overRows_HR hH ho hm hsr hov l2 (by rw [show (cutR sz (Nat.div n sz) l).length = n / sz from l1]; exact hnp) hszp (by rw [show flat (cutR sz (Nat.div n sz) l) = l from l3]; exact hv) hheap
    cases hst
    have hi : o / sz * sz - s = o - s := by omega
    rw [hi] at r1 r2
    exact fin _ r1 r2 (Kp.set rfl)
end
end Go.Ev

namespace Go.Ev
set_option linter.unusedVariables false
set_option linter.unusedSectionVars false
set_option linter.unusedSimpArgs false
variable [Val] [Fk]
theorem run_unit {P : Program} {w w' : World} {s : Sem Unit} (h : s.run P w = .ok () w') : (do s; pure Next.skip : Sem Next).run P w = .ok .skip w' := by
  simp only [Sem.run_bind, h, Result.andThen_ok, Sem.run_pure]
def nextV : Next → Option Value
  | .value v => some v
  | .skip => some undef
  | _ => none
def Turns (P : Program) (ρ : Operand → Value) (B : Nat) (μ : Mu) (h : Hp) (w : World) (o : Oper) (a : AV) (h' : Hp) : Prop :=
  ∃ v nxt w' μ', (execOp ρ o).run P w = .ok nxt w' ∧ nextV nxt = some v ∧ VR μ' a v ∧ μ.le μ' ∧ HR B μ' h' w' ∧ Ext B w w' ∧ Kp h μ h' μ'
theorem vr_undef {μ : Mu} : VR μ undefA undef := by simp only [VR]; exact ⟨#[], rfl, .nil⟩
section
variable {E : Env} {P : Program} (hE : EnvOk E P) {B : Nat} {μ : Mu} {h : Hp} {w : World} (hH : HR B μ h w) {nx : Key} (hB : B ≤ w.heap.size)
  {L : Lo} {ρ : Operand → Value} {q : Operand → Opd} (hq : ∀ x, VR μ (getO (q x) L) (ρ x))
variable {d : Option Tmp} {ty : TypeId} {pos : String} {af : Array Edge} {gd : Option (Nat × Bool)} {a : AV} {h' : Hp} {nx' : Key}
theorem turns_skip {o : Oper} {w' : World} (hrun : (execOp ρ o).run P w = .ok .skip w') (hh : HR B μ h' w') (he : Ext B w w') (hk : Kp h μ h' μ) : Turns P ρ B μ h w o undefA h' :=
  ⟨undef, .skip, w', μ, hrun, rfl, vr_undef, Mu.le_refl _, hh, he, hk⟩
include hH in
theorem store1_sound {f : Key} {g o b s nn : Nat} {x : AV} {v : Value} {h' : Hp} (hm : μ f g = some (b, s, nn)) (hs : s ≤ o) (hst : store1 h f g o x = some h') (hv : VR μ x v) (ho1 : v.oneCell' = true) :
    ∃ w', (storeCells ⟨b, o - s, none⟩ [v]).run P w = .ok () w' ∧ HR B μ h' w' ∧ Ext B w w' ∧ Kp h μ h' μ := by
  obtain ⟨ro, gen, sz, dp, ext, c, ho, hst⟩ := asCells_some hst
  obtain ⟨hro, hst⟩ := cnd_inv' hst
  subst hro
  obtain ⟨hz0, hst⟩ := cnd_inv' hst
  have hsz0 : sz ≠ 0 := fun hh => by subst hh; cases hz0
  obtain ⟨hg, hst⟩ := cnd_inv hst
  have hg := Nat.eq_of_beq_eq_true hg
  subst hg
  obtain ⟨⟨old, gw⟩, hr, hst⟩ := opt_inv hst
  obtain ⟨hgw, hst⟩ := cnd_inv hst
  have hgw := Nat.le_of_ble_eq_true hgw
  obtain ⟨hwf, hgen, hb⟩ := hH.cells ho
  obtain ⟨hB, hs0, cs, e, fz, hheap, hfz, hsz, hrows⟩ := hb g b s nn hm
  have hsr := start_le hs0 hs
  have e1 : o / sz * sz + o % sz = o := Nat.div_add_mod' o sz
  have hrr : c.get (o / sz) = some (.mk old gw) := hr
  have hR := hrows _ _ _ hrr hgw hsr
  have hlt := Tr.lt_of_get dp c _ _ hwf.1 hrr
  rw [setNth_eq] at hst
  have hst' : hset f (.cells false g sz dp ext (c.set dp (o / sz) (.mk (old.set (o % sz) x) g))) h = h' := Option.some.inj hst
  have hml : o % sz < sz := Nat.mod_lt _ (by omega)
  have hset : old.set (o % sz) x = putAt old (o % sz) [x] := by
    rw [List.set_eq_take_append_cons_drop, if_pos (by rw [hR.2.1]; exact hml)]
    simp [putAt]
  have hroom : o - s + [v].length ≤ cs.size := by
    obtain ⟨u, q4, _⟩ := hR.2.2 (o % sz) (old[o % sz]'(by rw [hR.2.1]; omega)) (List.getElem?_eq_getElem (by rw [hR.2.1]; omega))
    have q5 := (Array.getElem?_eq_some_iff.1 q4).1
    simp only [List.length_cons, List.length_nil]
    omega
  rw [← hst']
  refine ⟨World.put w b (.cells (spliceA cs (o - s) [v]) e fz), run_storeCells' [v] 0 (o - s) cs w hheap hfz (by omega) (by simpa using ho1), hH.write ho hm hheap (spliceA_size _ _ _) rfl (Tr.set_wf _ _ _ _ hwf.1) (fun k hk => ?_) (fun k l1 gw1 hg1 => ?_), Ext.put (hB rfl), Kp.set rfl⟩
  · rw [Tr.get_set dp c _ _ _ hwf.1 hlt]
    split
    · rename_i hkr; subst hkr; rw [hwf.2 _ hk] at hrr; cases hrr
    · exact hwf.2 k hk
  · rw [Tr.get_set dp c _ _ _ hwf.1 hlt] at hg1
    split at hg1
    · rename_i hkr
      subst hkr
      simp only [Option.some.injEq, Row.mk.injEq] at hg1
      obtain ⟨rfl, rfl⟩ := hg1
      right
      refine ⟨rfl, fun _ => ?_⟩
      have hi : o - s = o / sz * sz + o % sz - s := by omega
      rw [hi, hset]
      refine rowSplice hsr hR (.cons hv .nil) (by simp only [List.length_cons, List.length_nil]; omega) (by omega)
    · rename_i hkr
      left
      refine ⟨hg1, fun hsk j hj => ?_⟩
      rw [spliceA_get _ _ _ _ hroom, if_neg]
      simp only [List.length_cons, List.length_nil]
      rintro ⟨q1, q2⟩
      rcases Nat.lt_or_ge k (o / sz) with h1 | h1
      · have := mul_le_of_lt (sz := sz) h1; omega
      · have := mul_le_of_lt (sz := sz) (show o / sz < k by omega); omega
include hE hH hq in
theorem e_store {t : TypeId} {n : Nat} {x y : Operand} (hn : E.size t = some n) (hev : xStore n (q x) (q y) h nx L = some (Tn.mk a h' nx')) : Turns P ρ B μ h w ⟨d, .store t x y, ty, pos, af, gd⟩ a h' := by
  obtain ⟨f, g, o, hp, hev⟩ := asPtr_some hev
  obtain ⟨b, s, m, hm, hs, hx⟩ := q_ptr hq hp
  have fin : ∀ {vs : List Value} {w' : World}, (ρ y).cells.toList = vs → vs.length = n → (storeCells ⟨b, o - s, none⟩ vs).run P w = .ok () w' →
      (execOp ρ ⟨d, .store t x y, ty, pos, af, gd⟩).run P w = .ok .skip w' := by
    intro vs w' h1 h2 h3
    refine run_unit (s := Instr.storeAt t (ρ x) (ρ y)) ?_
    rw [hx]
    have hc : (ρ y).cells.size = n := by rw [← h2, ← h1]; simp
    simp only [Instr.storeAt, Instr.sureAddr, storeVar, Sem.run_bind, Sem.run_pure, Result.andThen_ok, hE.runSize hn, hc, ne_eq, not_true_eq_false, if_false, h1, h3]
  have hy := hq y
  rcases (by cases getO (q y) L <;> first | exact .inl ⟨_, rfl⟩ | exact .inr (fun l h => by cases h) : (∃ l, getO (q y) L = .agg l) ∨ ∀ l, getO (q y) L ≠ .agg l) with ⟨l, hl⟩ | hna
  · rw [hl] at hev hy
    replace hev : cnd (Nat.beq l.length n) (opt (storeTo h f g o l) none fun h' => some (Tn.mk undefA h' nx)) none = some (Tn.mk a h' nx') := hev
    obtain ⟨h1, hev⟩ := cnd_inv hev
    have h1 := Nat.eq_of_beq_eq_true h1
    obtain ⟨h2, hst, hev⟩ := opt_inv hev
    simp only [Option.some.injEq, Tn.mk.injEq] at hev
    obtain ⟨rfl, rfl, rfl⟩ := hev
    simp only [VR] at hy
    obtain ⟨cs, hy, hvs⟩ := hy
    have hcl : (ρ y).cells.toList = cs.toList := by rw [hy]; rfl
    have hcn : cs.toList.length = n := by rw [← hvs.length, h1]
    unfold storeTo at hst
    by_cases hz : l.length = 0
    · have : Nat.beq l.length 0 = true := by rw [hz]; rfl
      rw [this] at hst
      cases hst
      have hnil : cs.toList = [] := List.length_eq_zero_iff.1 (by rw [← hvs.length, hz])
      refine turns_skip (fin (hcl.trans hnil) (by rw [← hcn, hnil]) (by simp [storeCells])) hH (Ext.refl _ _) (Kp.refl _ _)
    · have : Nat.beq l.length 0 = false := Bool.eq_false_iff.2 fun hh => hz (Nat.eq_of_beq_eq_true hh)
      rw [this] at hst
      obtain ⟨hsc, hst⟩ := cnd_inv (show cnd _ _ none = some h2 from hst)
      obtain ⟨w', r1, r2, r3, r4⟩ := storeC_sound (P := P) hH hm hs hst rfl (by omega) hvs (allScalar_of hsc hvs)
      exact turns_skip (fin hcl hcn r1) r2 r3 r4
  · have hev' : cnd (Nat.beq n 1) (cnd (getO (q y) L).scalar (opt (store1 h f g o (getO (q y) L)) none fun h' => some (Tn.mk undefA h' nx)) none) none = some (Tn.mk a h' nx') := by
      cases hh : getO (q y) L <;> rw [hh] at hev hna <;> first | exact hev | exact absurd rfl (hna _)
    obtain ⟨h1, hev⟩ := cnd_inv hev'
    have h1 := Nat.eq_of_beq_eq_true h1
    obtain ⟨h2, hev⟩ := cnd_inv hev
    obtain ⟨h3, hst, hev⟩ := opt_inv hev
    simp only [Option.some.injEq, Tn.mk.injEq] at hev
    obtain ⟨rfl, rfl, rfl⟩ := hev
    have hsc := scalar_not hy h2
    obtain ⟨w', r1, r2, r3, r4⟩ := store1_sound (P := P) hH hm hs hst hy (oneCell_of hsc)
    exact turns_skip (fin (vs := [ρ y]) (by rw [isScalar_cells hsc]) (by simp [h1]) r1) r2 r3 r4
end
end Go.Ev

namespace Go.Ev
set_option linter.unusedVariables false
set_option linter.unusedSectionVars false
set_option linter.unusedSimpArgs false
variable [Val] [Fk]
/-! ## append, in the model -/
theorem growBy_le : ∀ (r c n : Nat), Builtin.growBy n r c + 768 ≤ 2 ^ r * (c + 768)
  | 0, c, n => by simp [Builtin.growBy]
  | r + 1, c, n => by
    unfold Builtin.growBy
    split
    · exact Nat.le_mul_of_pos_left _ (Nat.two_pow_pos _)
    · have h1 := growBy_le r (c + (c + 768) / 4) n
      have h2 : c + (c + 768) / 4 + 768 ≤ 2 * (c + 768) := by omega
      have h3 := Nat.mul_le_mul_left (2 ^ r) h2
      rw [Nat.pow_succ, Nat.mul_assoc]
      exact Nat.le_trans h1 h3
theorem nextcap_le {need c : Nat} (h : c < need) : Builtin.nextslicecap need c ≤ 16 * (need + 768) := by
  unfold Builtin.nextslicecap
  split
  · omega
  · split
    · omega
    · have := growBy_le 4 c need
      have h4 : (2 : Nat) ^ 4 = 16 := rfl
      rw [h4] at this
      omega
section
variable {P : Program} {w : World} {st xt el : TypeId} {i : TypeInfo} {ty : TypeId} {args : Array Value} {ats : Array TypeId}
theorem run_append_in {base : Option Addr} {sLen sCap n : Nat} {y : Value} {dx : TypeDesc} {vs : Array Value} {w' : World} (h0 : ats[0]? = some st) (h1 : ats[1]? = some xt) (ha : args[0]? = some (.slice base sLen sCap)) (hb : args[1]? = some y)
    (hu : P.underlying st = some (.slice el)) (hx : P.underlying xt = some dx) (hnx : ∀ k, dx ≠ .int k) (hi : P.info? el = some i)
    (hl : (Builtin.lenOf y).run P w = .ok n w) (hle : sLen + n ≤ sCap) (hf : (Builtin.firstCells i.size n y).run P w = .ok vs w)
    (hst : (match base with | some a => storeCells (a.add (sLen * i.size)) vs.toList | none => pure () : Sem Unit).run P w = .ok () w') :
    (Builtin.append_ ats ty args).run P w = .ok (.slice base (sLen + n) sCap) w' := by
  have hz : (dx matches .int _) = false := by cases dx <;> first | rfl | exact absurd rfl (hnx _)
  unfold Builtin.append_
  simp only [h0, h1, ha, hb, Sem.run_bind, run_underlying hu, run_underlying hx, Result.andThen_ok, sizeOf, typeInfo, run_program, hi, Sem.run_pure, hz, Bool.false_eq_true, if_false, hl, hle, if_true, Bool.not_false, hf]
  cases base with
  | none => simp only [Sem.run_pure, Result.ok.injEq] at hst ⊢; simp [hst]
  | some a => simp only [Sem.run_bind, hst, Result.andThen_ok, Sem.run_pure]
theorem run_append_new {base : Option Addr} {sLen sCap n : Nat} {y : Value} {dx : TypeDesc} {os vs : Array Value} {z : Value} (h0 : ats[0]? = some st) (h1 : ats[1]? = some xt) (ha : args[0]? = some (.slice base sLen sCap)) (hb : args[1]? = some y)
    (hu : P.underlying st = some (.slice el)) (hx : P.underlying xt = some dx) (hnx : ∀ k, dx ≠ .int k) (hi : P.info? el = some i) (hz : i.zero = some z)
    (hl : (Builtin.lenOf y).run P w = .ok n w) (hlt : sCap < sLen + n) (hs : sLen + n ≤ 1000000) (hby : i.bytes ≤ 1000000)
    (hf : (Builtin.firstCells i.size n y).run P w.drew = .ok vs w.drew) (ho : (Builtin.firstCells i.size sLen (.slice base sLen sCap)).run P w.drew = .ok os w.drew) :
    ∃ cp, sLen + n ≤ cp ∧ (Builtin.append_ ats ty args).run P w = .ok (.slice (some ⟨w.heap.size, 0, none⟩) (sLen + n) cp) (w.drew.alloc (.cells (os ++ vs ++ Builtin.zeroCells z.cells (cp - (sLen + n))) el)) := by
  have hzz : (dx matches .int _) = false := by cases dx <;> first | rfl | exact absurd rfl (hnx _)
  refine ⟨(Question.appendCap (sLen + n) sCap el).cut (w.tape w.drawn (.appendCap (sLen + n) sCap el)), by simp [Question.cut], ?_⟩
  have hforced : (Question.appendCap (sLen + n) sCap el).forced = false := rfl
  have c1 : ¬ (sLen + n ≤ sCap) := by omega
  have c2 : ¬ (((sLen + n : Nat) : Int) > IntKind.i64.max ∧ (false = true ∨ i.bytes = 0)) := by
    rintro ⟨h, _⟩
    have : IntKind.i64.max = 9223372036854775807 := rfl
    omega
  have c3 : ¬ (Builtin.nextslicecap (sLen + n) sCap * i.bytes > 2 ^ 48) := by
    have h1 := nextcap_le hlt
    have h2 := Nat.mul_le_mul h1 hby
    have h3 : (2 : Nat) ^ 48 = 281474976710656 := rfl
    omega
  unfold Builtin.append_
  simp only [h0, h1, ha, hb, Sem.run_bind, run_underlying hu, run_underlying hx, Result.andThen_ok, sizeOf, typeInfo, run_program, hi, Sem.run_pure, hzz, Bool.false_eq_true, if_false, hl, c1, Bool.not_false, if_true]
  have c2' : ¬ (((sLen : Int) + (n : Int)) > IntKind.i64.max ∧ (False ∨ i.bytes = 0)) := by simpa using c2
  simp only [Int.natCast_add, c2', if_false, c3, Sem.run_bind, Sem.run_pure, Result.andThen_ok, run_choose_drew, hforced, Bool.false_eq_true, run_askRoom, ho, hf, zeroValue, typeInfo, run_program, hi, hz, newRow, run_newObj_alloc]
  rfl
end
theorem vals_of {μ : Mu} {cs : Array Value} : ∀ (l : List AV) (x : Nat), (∀ j a, l[j]? = some a → ∃ v, cs[x + j]? = some v ∧ VR μ a v) → ∃ vs : List Value, VRs μ l vs ∧ ∀ j v, vs[j]? = some v → cs[x + j]? = some v
  | [], x, h => ⟨[], .nil, fun j v hj => by simp at hj⟩
  | a :: l, x, h => by
    obtain ⟨v, h1, h2⟩ := h 0 a rfl
    obtain ⟨vs, h3, h4⟩ := vals_of l (x + 1) (fun j b hj => by have := h (j + 1) b (by simpa using hj); rwa [show x + (j + 1) = x + 1 + j by omega] at this)
    refine ⟨v :: vs, .cons h2 h3, fun j u hj => ?_⟩
    cases j with
    | zero => simp at hj; subst hj; exact h1
    | succ j => have := h4 j u (by simpa using hj); rwa [show x + (j + 1) = x + 1 + j by omega]
theorem run_load_block {P : Program} {w : World} {b x : Nat} {cs : Array Value} {e : TypeId} {fz : Nat × Nat} {vs : List Value} (hb : w.heap[b]? = some (.cells cs e fz)) (hv : ∀ j v, vs[j]? = some v → cs[x + j]? = some v) :
    (loadCells ⟨b, x, none⟩ vs.length).run P w = .ok vs.toArray w := by
  refine run_loadCells_list (P := P) w ⟨b, x, none⟩ vs (fun j v hj => ?_)
  rw [add_zero_spot, cell?_of_block hb]
  exact hv j v hj
section
variable {E : Env} {P : Program} (hE : EnvOk E P) {B : Nat} {μ : Mu} {h : Hp} {w : World} (hH : HR B μ h w)
include hH in
theorem rows_load {f : Key} {g o b s n k sz dp ext gen : Nat} {ro : Bool} {c : Tr Row} {ls : List (List AV)} (ho : hget f h = .cells ro gen sz dp ext c) (hm : μ f g = some (b, s, n)) (hs : s ≤ o) (hmod : o % sz = 0)
    (hg : getRows c g k (o / sz) = some ls) : ls.length = k ∧ (∀ l ∈ ls, l.length = sz) ∧ ∃ cs e fz, w.heap[b]? = some (.cells cs e fz) ∧ ∃ vs : List Value, VRs μ (flat ls) vs ∧ vs.length = k * sz ∧ ∀ j v, vs[j]? = some v → cs[o - s + j]? = some v := by
  obtain ⟨hwf, hgen, hb⟩ := hH.cells ho
  obtain ⟨hB, hs0, cs, e, fz, hheap, hfz, hsz, hrows⟩ := hb g b s n hm
  obtain ⟨g1, g2⟩ := getRows_sound (sz := sz) hrows _ _ _ hg (start_le hs0 hs)
  obtain ⟨f1, f2⟩ := flat_rows ls _ g2
  have e1 : o / sz * sz + o % sz = o := Nat.div_add_mod' o sz
  obtain ⟨vs, v1, v2⟩ := vals_of (μ := μ) (cs := cs) (flat ls) (o - s) (fun j a hj => by
    obtain ⟨v, q1, q2⟩ := f2 j a hj
    exact ⟨v, by rw [← q1]; congr 1; omega, q2⟩)
  refine ⟨g1, fun l hl => ?_, cs, e, fz, hheap, vs, v1, by rw [← v1.length, f1, g1], v2⟩
  obtain ⟨i, hi⟩ := List.getElem?_of_mem hl
  exact (g2 i l hi).2.1
theorem flat_singles : ∀ (l : List AV), flat (l.map fun a => [a]) = l
  | [] => rfl
  | a :: l => by simp [flat, flat_singles l]
include hH in
theorem firstRows_sound {Y : AV} {y : Value} {sz k m : Nat} {rows : List (List AV)} (hy : VR μ Y y) (hl : lenA Y = some m) (hkm : k ≤ m) (hr : firstRows h sz k Y = some rows) :
    (∀ w', (Builtin.lenOf y).run P w' = .ok m w') ∧ rows.length = k ∧ (∀ l ∈ rows, l.length = sz) ∧ ∃ vs : List Value, VRs μ (flat rows) vs ∧ ∀ w', w'.heap = w.heap → (Builtin.firstCells sz k y).run P w' = .ok vs.toArray w' := by
  unfold lenA at hl
  unfold firstRows at hr
  split at hl
  · rename_i f g o len cap sz' ex
    cases hl
    simp only [VR] at hy
    obtain ⟨b, s, n, x, c, hm, rfl, h1, h2, h3, hpl⟩ := hy
    replace hr := cnd_inv hr
    have hz := Nat.eq_of_beq_eq_true hr.1
    subst hz
    replace hr := asCells_some hr.2
    obtain ⟨ro, gen, z, dp, ext, t, ho, hr⟩ := hr
    replace hr := cnd_inv hr
    have hz := Nat.eq_of_beq_eq_true hr.1
    subst hz
    replace hr := cnd_inv hr.2
    obtain ⟨hmod, hr⟩ := hr
    have hmod : o % z = 0 := Nat.eq_of_beq_eq_true hmod
    rcases hpl with ⟨hs, rfl, _⟩ | ⟨rfl, rfl⟩
    · obtain ⟨q1, q2, cs, e, fz, hheap, vs, q3, q4, q5⟩ := rows_load hH ho hm hs hmod hr
      refine ⟨fun w' => by simp [Builtin.lenOf], q1, q2, vs, q3, fun w' hw' => ?_⟩
      show (loadCells ⟨b, o - s, none⟩ (k * z)).run P w' = _
      rw [← q4]
      exact run_load_block (by rw [hw']; exact hheap) q5
    · have hk : k = 0 := by omega
      subst hk
      cases hr
      refine ⟨fun w' => by simp [Builtin.lenOf], rfl, by simp, [], .nil, fun w' hw' => ?_⟩
      show (loadCells ⟨b, x, none⟩ (0 * z)).run P w' = _
      rw [Nat.zero_mul]; rfl
  · cases hl
    simp only [VR] at hy
    subst hy
    cases hr
    have hk : k = 0 := by omega
    subst hk
    exact ⟨fun w' => by simp [Builtin.lenOf], rfl, by simp, [], .nil, fun w' hw' => by simp [Builtin.firstCells]⟩
  · rename_i str
    cases hl
    simp only [VR] at hy
    obtain ⟨bs, rfl, hb⟩ := hy
    replace hr := cnd_inv hr
    have hz := Nat.eq_of_beq_eq_true hr.1
    subst hz
    have hr2 := hr.2
    cases hr2
    have hlen : str.length = bs.size := by rw [← hb]; simp
    refine ⟨fun w' => by simp [Builtin.lenOf, hlen], by simp [byteCells_length]; omega, by simp, (bs.data.toList.take k).map (fun b => Value.int .u8 b.toNat), ?_, fun w' hw' => ?_⟩
    · rw [flat_singles]
      refine VRs.of_get (by simp [byteCells_length, hlen]) fun i a hi => ?_
      rw [byteCells_get] at hi
      rw [← hb, ← List.map_take, List.getElem?_map] at hi
      rw [List.getElem?_map]
      cases hd : (bs.data.toList.take k)[i]? with
      | none => rw [hd] at hi; cases hi
      | some u =>
        rw [hd] at hi
        simp only [Option.map_some, Option.some.injEq] at hi
        subst hi
        exact ⟨_, rfl, by simp only [VR]; rfl⟩
    · simp only [Builtin.firstCells, Sem.run_pure, Result.ok.injEq, and_true]
      congr 1
      apply Array.ext'
      simp
  · cases hl
end
end Go.Ev

namespace Go.Ev
set_option linter.unusedVariables false
set_option linter.unusedSectionVars false
set_option linter.unusedSimpArgs false
variable [Val] [Fk]
theorem growTo_inv {n : Nat} {k : Nat → Tr Row → Option Tn} {r : Tn} : ∀ (fuel d : Nat) (c : Tr Row), Tr.Wf d c → growTo n fuel d c k = some r → ∃ d' c', Tr.Wf d' c' ∧ (∀ i, c'.get i = c.get i) ∧ n ≤ 2 ^ d' ∧ k d' c' = some r
  | 0, d, c, hw, h => by cases h
  | fuel + 1, d, c, hw, h => by
    unfold growTo at h
    rw [cnd_eq] at h
    split at h
    · rename_i hle; exact ⟨d, c, hw, fun _ => rfl, Nat.le_of_ble_eq_true hle, h⟩
    · obtain ⟨d', c', h1, h2, h3, h4⟩ := growTo_inv fuel (d + 1) c.grow (Tr.grow_wf d c hw) h
      exact ⟨d', c', h1, fun i => by rw [h2, Tr.get_grow d c hw], h3, h4⟩
theorem addRows_sound {dp gw : Nat} : ∀ (ls : List (List AV)) (c : Tr Row) (r : Nat), Tr.Wf dp c → r + ls.length ≤ 2 ^ dp →
    Tr.Wf dp (addRows dp gw c r ls) ∧ ∀ k, (addRows dp gw c r ls).get k = if r ≤ k ∧ k < r + ls.length then (ls[k - r]?).map (Row.mk · gw) else c.get k
  | [], c, r, hw, hle => ⟨hw, fun k => by rw [if_neg (by simp only [List.length_nil]; omega)]; rfl⟩
  | l :: ls, c, r, hw, hle => by
    simp only [List.length_cons] at hle
    obtain ⟨h1, h2⟩ := addRows_sound ls (c.set dp r (.mk l gw)) (r + 1) (Tr.set_wf dp c r _ hw) (by omega)
    refine ⟨h1, fun k => ?_⟩
    show (addRows dp gw (c.set dp r (.mk l gw)) (r + 1) ls).get k = _
    rw [h2]
    simp only [List.length_cons]
    by_cases hk : r + 1 ≤ k ∧ k < r + 1 + ls.length
    · rw [if_pos hk, if_pos (by omega), show k - r = (k - (r + 1)) + 1 by omega]; simp
    · rw [if_neg hk, Tr.get_set dp c r k _ hw (by omega)]
      by_cases hkr : k = r
      · subst hkr; rw [if_pos rfl, if_pos (by omega)]; simp
      · rw [if_neg hkr, if_neg (by omega)]
theorem getRows_get {g : Nat} {c : Tr Row} : ∀ (n r : Nat) (ls : List (List AV)), getRows c g n r = some ls → ls.length = n ∧ ∀ i l, ls[i]? = some l → ∃ gw, c.get (r + i) = some (.mk l gw) ∧ gw ≤ g
  | 0, r, ls, h => by cases h; exact ⟨rfl, fun i l hi => by simp at hi⟩
  | n + 1, r, ls, h => by
    unfold getRows at h
    split at h
    · rename_i l gw hr
      obtain ⟨hgw, h⟩ := cnd_inv h
      split at h
      · rename_i ls' hls
        cases h
        obtain ⟨h1, h2⟩ := getRows_get n (r + 1) ls' hls
        refine ⟨by simp [h1], fun i l' hi => ?_⟩
        cases i with
        | zero => simp at hi; subst hi; exact ⟨gw, hr, Nat.le_of_ble_eq_true hgw⟩
        | succ i => simp at hi; obtain ⟨g1, e1, e2⟩ := h2 i l' hi; exact ⟨g1, by rw [← e1]; congr 1; omega, e2⟩
      · cases h
    · cases h
theorem rowsGw_get : ∀ (ls : List (List AV)) (gw i : Nat) (l : List AV) (g : Nat), (rowsGw gw ls)[i]? = some (.mk l g) → ls[i]? = some l ∧ g = gw
  | [], gw, i, l, g, h => by simp [rowsGw] at h
  | x :: ls, gw, 0, l, g, h => by simp [rowsGw] at h; obtain ⟨rfl, rfl⟩ := h; simp
  | x :: ls, gw, i + 1, l, g, h => by simp only [rowsGw, List.getElem?_cons_succ] at h ⊢; exact rowsGw_get ls gw i l g h
theorem rowsGw_length : ∀ (ls : List (List AV)) (gw : Nat), (rowsGw gw ls).length = ls.length
  | [], _ => rfl
  | _ :: ls, gw => by simp [rowsGw, rowsGw_length ls]
theorem flat_append : ∀ (a b : List (List AV)), flat (a ++ b) = flat a ++ flat b
  | [], b => rfl
  | x :: a, b => by simp [flat, flat_append a b]
theorem row_at {μ : Mu} {sz s x r0 r : Nat} {ls : List (List AV)} {cs : Array Value} {l : List AV} (hlen : ∀ l ∈ ls, l.length = sz) (hc : ∀ j a, (flat ls)[j]? = some a → ∃ v, cs[x + j]? = some v ∧ VR μ a v)
    (hx : x + s = r0 * sz) (hr : r0 ≤ r) (hl : ls[r - r0]? = some l) : RowR μ cs s sz r l := by
  have hrr : r * sz = r0 * sz + (r - r0) * sz := by rw [← Nat.add_mul]; congr 1; omega
  refine ⟨by omega, hlen _ (List.mem_of_getElem? hl), fun j a hj => ?_⟩
  have hjl : j < sz := by have := (List.getElem?_eq_some_iff.1 hj).1; rw [hlen _ (List.mem_of_getElem? hl)] at this; exact this
  have hf := flat_get ls (r - r0) j l hlen hl hjl
  rw [hj] at hf
  obtain ⟨v, e1, e2⟩ := hc _ a hf
  exact ⟨v, by rw [← e1]; congr 1; omega, e2⟩
section
variable {E : Env} {P : Program} (hE : EnvOk E P) {B : Nat} {μ : Mu} {h : Hp} {w : World} (hH : HR B μ h w) {nx : Key} (hB : B ≤ w.heap.size)
include hH hB in
theorem HR.fresh (hnx : (hget nx h).isNone = true) {w' : World} {cs : Array Value} {e : TypeId} {sz : Nat} {ls : List (List AV)} (hw : w'.heap = w.heap.push (.cells cs e (0, 0)))
    (hlen : ∀ l ∈ ls, l.length = sz) (hc : ∀ j a, (flat ls)[j]? = some a → ∃ v, cs[0 + j]? = some v ∧ VR μ a v) :
    HR B (μ.ins nx 0 (w.heap.size, 0, cs.size)) (hset nx (newRows sz ls) h) w' ∧ μ.le (μ.ins nx 0 (w.heap.size, 0, cs.size)) := by
  refine hH.alloc hnx hw (new_cells hH hnx hB hw (.inl rfl) (Tr.ofList_wf _ _) (fun r hr => ?_) (fun r l gw hg => ?_))
  · cases hg : (Tr.ofList (depthFor ls.length 25 0) (rowsGw 0 ls)).get r with
    | none => rfl
    | some y =>
      have := (List.getElem?_eq_some_iff.1 (Tr.ofList_some _ _ _ _ hg)).1
      rw [rowsGw_length] at this; omega
  · obtain ⟨h1, h2⟩ := rowsGw_get _ _ _ _ _ (Tr.ofList_some _ _ _ _ hg)
    refine ⟨h2, row_at (r0 := 0) (x := 0) hlen (fun j a hj => ?_) (by simp) (Nat.zero_le _) (by simpa using h1)⟩
    obtain ⟨v, e1, e2⟩ := hc j a hj
    exact ⟨v, e1, VR.mono (Mu.ins_le (hH.noneAt hnx 0) _) _ _ e2⟩
variable {f : Key} {gen sz dp ext : Nat} {c : Tr Row} {b s n : Nat}
include hH in
theorem HR.growIn (hns : gen + 1 ≠ strGen) (ho : hget f h = .cells false gen sz dp ext c) (hm : μ f gen = some (b, s, n)) {cs : Array Value} {e : TypeId} {fz : Nat × Nat} (hheap : w.heap[b]? = some (.cells cs e fz))
    {dp' : Nat} {c' : Tr Row} {new : List (List AV)} {vs : List Value} (hw' : Tr.Wf dp' c') (hlen : ∀ l ∈ new, l.length = sz) (hs : s ≤ ext * sz) (hroom : ext * sz - s + vs.length ≤ cs.size) (hv : VRs μ (flat new) vs)
    (hget' : ∀ k, c'.get k = if ext ≤ k ∧ k < ext + new.length then (new[k - ext]?).map (Row.mk · (gen + 1)) else c.get k) :
    HR B (μ.ins f (gen + 1) (b, s, n)) (hset f (.cells false (gen + 1) sz dp' (ext + new.length) c') h) (World.put w b (.cells (spliceA cs (ext * sz - s) vs) e fz)) ∧ μ.le (μ.ins f (gen + 1) (b, s, n)) := by
  obtain ⟨hwf, hgen, hblk⟩ := hH.cells ho
  have hbl := hH.lt _ _ _ _ _ hm
  have hBb : B ≤ b := (hblk _ _ _ _ hm).1 rfl
  have hle : μ.le (μ.ins f (gen + 1) (b, s, n)) := Mu.ins_le (hgen.1 _ (Nat.lt_succ_self _)) _
  have hvl : vs.length = new.length * sz := by rw [← hv.length, flat_length new hlen]
  have same : ∀ r l gw, c.get r = some (.mk l gw) → s ≤ r * sz → ∀ j, j < sz → (spliceA cs (ext * sz - s) vs)[r * sz + j - s]? = cs[r * sz + j - s]? := by
    intro r l gw hr hsr j hj
    rw [spliceA_get _ _ _ _ hroom, if_neg]
    rintro ⟨q1, q2⟩
    have hre : r < ext := Nat.lt_of_not_le fun hh => by rw [hwf.2 r hh] at hr; cases hr
    have := mul_le_of_lt (sz := sz) hre
    omega
  refine ⟨⟨?_, ?_, ?_, ?_, hH.fk, fun f1 b1 s1 n1 h1 => (Mu.ins_inv h1).elim (fun h => by obtain ⟨_, h2, h3⟩ := h; first | omega | (cases h3; rfl)) fun h => hH.start _ _ _ _ h⟩, hle⟩
  · intro f1 g1 b1 s1 m1 f2 g2 s2 m2 h1 h2 hc
    rcases Mu.ins_inv h1 with ⟨i1, _, e1⟩ | k1 <;> rcases Mu.ins_inv h2 with ⟨i2, _, e2⟩ | k2
    · cases e1; cases e2; exact ⟨i1.trans i2.symm, rfl, rfl⟩
    · cases e1; subst i1; exact hH.inj _ _ _ _ _ _ _ _ _ hm k2 (.inr hBb)
    · cases e2; subst i2; exact hH.inj _ _ _ _ _ _ _ _ _ k1 hm (.inr hBb)
    · exact hH.inj _ _ _ _ _ _ _ _ _ k1 k2 hc
  · intro f1 g1 b1 s1 m1 h1
    simp only [World.put, Array.size_setIfInBounds]
    rcases Mu.ins_inv h1 with ⟨rfl, rfl, e1⟩ | k1
    · cases e1; exact hbl
    · exact hH.lt _ _ _ _ _ k1
  · intro f1
    by_cases hff : f = f1
    · subst hff
      rw [hget_hset]
      refine ⟨⟨hw', fun r hr => ?_⟩, ⟨fun g hg => ?_, fun r l gw hr => ?_⟩, ?_⟩
      · rw [hget', if_neg (by omega)]; exact hwf.2 r (by omega)
      · rw [Mu.ins_other _ (.inr (by omega))]; exact hgen.1 g (by omega)
      · rw [hget'] at hr
        split at hr
        · cases hn : new[r - ext]? with
          | none => rw [hn] at hr; cases hr
          | some l1 => rw [hn] at hr; simp only [Option.map_some, Option.some.injEq, Row.mk.injEq] at hr; omega
        · have := hgen.2 r l gw hr; omega
      · have main : ∀ g b1 s1 n1, μ f g = some (b1, s1, n1) → ∀ g', g ≤ g' → (g' ≤ gen → g' = g) → (g = gen ∨ g' = g) → (false = false → B ≤ b1) ∧ s1 % sz = 0 ∧ ∃ cs1 e1 fz1, (World.put w b (.cells (spliceA cs (ext * sz - s) vs) e fz)).heap[b1]? = some (.cells cs1 e1 fz1) ∧
            FzOk g' cs1 fz1 ∧ cs1.size = n1 ∧ ∀ r l gw, c'.get r = some (.mk l gw) → gw ≤ g' → s1 ≤ r * sz → RowR (μ.ins f (gen + 1) (b, s, n)) cs1 s1 sz r l := by
          intro g b1 s1 n1 hm1 g' hgg hge hor
          obtain ⟨a1, a2, cs1, e1, fz1, a3, a4, a5, a6⟩ := hblk g b1 s1 n1 hm1
          have hg : g ≤ gen := Nat.le_of_not_lt fun hlt => by rw [hgen.1 g hlt] at hm1; cases hm1
          have fzm : ∀ {cs2 : Array Value}, cs2.size = cs1.size → FzOk g' cs2 fz1 := fun hh => by
            rcases a4 with h0 | ⟨h0, h1⟩
            · exact .inl h0
            · exact .inr ⟨by omega, by rw [hh]; exact h1⟩
          by_cases hb : b1 = b
          · subst hb
            obtain ⟨_, rfl, rfl⟩ := hH.inj _ _ _ _ _ _ _ _ _ hm hm1 (.inr hBb)
            rw [hheap] at a3
            simp only [Option.some.injEq, Obj.cells.injEq] at a3
            obtain ⟨rfl, rfl, rfl⟩ := a3
            refine ⟨a1, a2, _, _, _, put_get hbl, fzm (spliceA_size _ _ _), by rw [spliceA_size]; exact a5, ?_⟩
            intro r l gw g1 g2 g3
            rw [hget'] at g1
            split at g1
            · rename_i hin
              cases hn : new[r - ext]? with
              | none => rw [hn] at g1; cases g1
              | some l1 =>
                rw [hn] at g1
                simp only [Option.map_some, Option.some.injEq, Row.mk.injEq] at g1
                obtain ⟨rfl, rfl⟩ := g1
                refine (row_at (μ := μ) (r0 := ext) (x := ext * sz - s) hlen (fun j a hj => ?_) (by omega) hin.1 hn).mono hle
                obtain ⟨v, q1, q2⟩ := hv.get hj
                have hjl : j < vs.length := (List.getElem?_eq_some_iff.1 q1).1
                refine ⟨v, ?_, q2⟩
                rw [spliceA_get _ _ _ _ hroom, if_pos (by omega), ← q1]
                congr 1; omega
            · have hgw : gw ≤ gen := hgen.2 r l gw g1
              have hgwg : gw ≤ g := by
                rcases hor with h0 | h0
                · omega
                · omega
              obtain ⟨k1, k2, k3⟩ := a6 r l gw g1 hgwg g3
              refine ⟨k1, k2, fun j a hj => ?_⟩
              have hjl : j < sz := by have := (List.getElem?_eq_some_iff.1 hj).1; omega
              rw [same r l gw g1 g3 j hjl]
              obtain ⟨v, q1, q2⟩ := k3 j a hj
              exact ⟨v, q1, VR.mono hle _ _ q2⟩
          · have hgg2 : g' = g := by
              rcases hor with h0 | h0
              · subst h0
                rw [hm] at hm1
                simp only [Option.some.injEq, Prod.mk.injEq] at hm1
                exact absurd hm1.1.symm hb
              · exact h0
            subst hgg2
            refine ⟨a1, a2, cs1, e1, fz1, ?_, a4, a5, ?_⟩
            · simp only [World.put]; rw [Array.getElem?_setIfInBounds_ne (Ne.symm hb)]; exact a3
            · intro r l gw g1 g2 g3
              rw [hget'] at g1
              split at g1
              · cases hn : new[r - ext]? with
                | none => rw [hn] at g1; cases g1
                | some l1 =>
                  rw [hn] at g1
                  simp only [Option.map_some, Option.some.injEq, Row.mk.injEq] at g1
                  omega
              · exact (a6 r l gw g1 g2 g3).mono hle
        intro g b1 s1 n1 hm1
        rcases Mu.ins_inv hm1 with ⟨_, rfl, e1⟩ | k1
        · cases e1
          exact main gen b s n hm (gen + 1) (Nat.le_succ _) (fun hh => absurd hh (by omega)) (.inl rfl)
        · exact main g b1 s1 n1 k1 g (Nat.le_refl _) (fun _ => rfl) (.inr rfl)
    · rw [hget_hset_ne hff]
      refine OR.mono hle (fun g => Mu.ins_other _ (.inl hff) _) (fun g b1 s1 m1 hm1 => ?_) (hH.obj f1)
      have hne : b ≠ b1 := fun hb => by subst hb; exact hff (hH.inj _ _ _ _ _ _ _ _ _ hm hm1 (.inr hBb)).1
      simp only [World.put]
      rw [Array.getElem?_setIfInBounds_ne hne]
  · intro f1 g1 g2 b1 s1 m1 s2 m2 h1 h2 hg
    rcases Mu.ins_inv h1 with ⟨i0, i1, e1⟩ | k1 <;> rcases Mu.ins_inv h2 with ⟨j0, i2, e2⟩ | k2
    · omega
    · cases e1
      subst i0
      exact hH.side _ gen g2 _ _ _ _ _ hm k2 (by omega)
    · cases e2
      subst j0
      have := hH.side _ g1 gen _ _ _ _ _ k1 hm hg
      omega
    · exact hH.side _ _ _ _ _ _ _ _ k1 k2 hg
include hH hB in
theorem HR.growNew (ho : hget f h = .cells false gen sz dp ext c) (hm : μ f gen = some (b, s, n)) {w' : World} {cs : Array Value} {e : TypeId}
    {dp' : Nat} {c' : Tr Row} {o : Nat} {old new : List (List AV)} (hw : w'.heap = w.heap.push (.cells cs e (0, 0))) (hw' : Tr.Wf dp' c') (hlen : ∀ l ∈ old ++ new, l.length = sz) (hsz : 0 < sz) (ho0 : o % sz = 0)
    (hext : ext = o / sz + old.length) (hold : ∀ i l, old[i]? = some l → ∃ gw, c.get (o / sz + i) = some (.mk l gw))
    (hc : ∀ j a, (flat (old ++ new))[j]? = some a → ∃ v, cs[0 + j]? = some v ∧ VR μ a v)
    (hget' : ∀ k, c'.get k = if ext ≤ k ∧ k < ext + new.length then (new[k - ext]?).map (Row.mk · (gen + 1)) else c.get k) :
    HR B (μ.ins f (gen + 1) (w.heap.size, o, cs.size)) (hset f (.cells false (gen + 1) sz dp' (ext + new.length) c') h) w' ∧ μ.le (μ.ins f (gen + 1) (w.heap.size, o, cs.size)) := by
  obtain ⟨hwf, hgen, hblk⟩ := hH.cells ho
  have hbl := hH.lt _ _ _ _ _ hm
  have hle : μ.le (μ.ins f (gen + 1) (w.heap.size, o, cs.size)) := Mu.ins_le (hgen.1 _ (Nat.lt_succ_self _)) _
  have e1 : o / sz * sz + o % sz = o := Nat.div_add_mod' o sz
  refine ⟨⟨?_, ?_, ?_, ?_, hH.fk, fun f1 b1 s1 n1 h1 => (Mu.ins_inv h1).elim (fun h => by obtain ⟨_, h2, h3⟩ := h; first | omega | (cases h3; rfl)) fun h => hH.start _ _ _ _ h⟩, hle⟩
  · intro f1 g1 b1 s1 m1 f2 g2 s2 m2 h1 h2 hc
    rcases Mu.ins_inv h1 with ⟨i1, _, e1⟩ | k1 <;> rcases Mu.ins_inv h2 with ⟨i2, _, e2⟩ | k2
    · cases e1; cases e2; exact ⟨i1.trans i2.symm, rfl, rfl⟩
    · cases e1; exact absurd (hH.lt _ _ _ _ _ k2) (Nat.lt_irrefl _)
    · cases e2; exact absurd (hH.lt _ _ _ _ _ k1) (Nat.lt_irrefl _)
    · exact hH.inj _ _ _ _ _ _ _ _ _ k1 k2 hc
  · intro f1 g1 b1 s1 m1 h1
    rw [hw, Array.size_push]
    rcases Mu.ins_inv h1 with ⟨rfl, rfl, e1⟩ | k1
    · cases e1; omega
    · have := hH.lt _ _ _ _ _ k1; omega
  · intro f1
    by_cases hff : f = f1
    · subst hff
      rw [hget_hset]
      refine ⟨⟨hw', fun r hr => ?_⟩, ⟨fun g hg => ?_, fun r l gw hr => ?_⟩, ?_⟩
      · rw [hget', if_neg (by omega)]; exact hwf.2 r (by omega)
      · rw [Mu.ins_other _ (.inr (by omega))]; exact hgen.1 g (by omega)
      · rw [hget'] at hr
        split at hr
        · cases hn : new[r - ext]? with
          | none => rw [hn] at hr; cases hr
          | some l1 => rw [hn] at hr; simp only [Option.map_some, Option.some.injEq, Row.mk.injEq] at hr; omega
        · have := hgen.2 r l gw hr; omega
      · intro g b1 s1 n1 hm1
        rcases Mu.ins_inv hm1 with ⟨_, rfl, e2⟩ | k1
        · cases e2
          refine ⟨fun _ => hB, ho0, cs, e, (0, 0), by rw [hw]; simp, .inl rfl, rfl, ?_⟩
          intro r l gw g1 g2 g3
          have hr0 : o / sz ≤ r := by
            have : o / sz * sz ≤ r * sz := by omega
            exact Nat.le_of_mul_le_mul_right this hsz
          have key : (old ++ new)[r - o / sz]? = some l := by
            rw [hget'] at g1
            split at g1
            · rename_i hin
              cases hn : new[r - ext]? with
              | none => rw [hn] at g1; cases g1
              | some l1 =>
                rw [hn] at g1
                simp only [Option.map_some, Option.some.injEq, Row.mk.injEq] at g1
                obtain ⟨rfl, rfl⟩ := g1
                rw [List.getElem?_append_right (by omega), ← hn]
                congr 1; omega
            · rename_i hin
              have hre : r < ext := Nat.lt_of_not_le fun hh => by rw [hwf.2 r hh] at g1; cases g1
              have hi : r - o / sz < old.length := by omega
              obtain ⟨gw', q⟩ := hold (r - o / sz) _ (List.getElem?_eq_getElem hi)
              rw [show o / sz + (r - o / sz) = r by omega, g1] at q
              simp only [Option.some.injEq, Row.mk.injEq] at q
              rw [List.getElem?_append_left hi, List.getElem?_eq_getElem hi, q.1]
          refine (row_at (μ := μ) (r0 := o / sz) (x := 0) hlen hc (by omega) hr0 key).mono hle
        · obtain ⟨a1, a2, cs1, e1, fz1, a3, a4, a5, a6⟩ := hblk g b1 s1 n1 k1
          have hg : g ≤ gen := Nat.le_of_not_lt fun hlt => by rw [hgen.1 g hlt] at k1; cases k1
          refine ⟨a1, a2, cs1, e1, fz1, ?_, a4, a5, ?_⟩
          · rw [hw, Array.getElem?_push, if_neg (by have := hH.lt _ _ _ _ _ k1; omega)]; exact a3
          · intro r l gw g1 g2 g3
            rw [hget'] at g1
            split at g1
            · cases hn : new[r - ext]? with
              | none => rw [hn] at g1; cases g1
              | some l1 =>
                rw [hn] at g1
                simp only [Option.map_some, Option.some.injEq, Row.mk.injEq] at g1
                omega
            · exact (a6 r l gw g1 g2 g3).mono hle
    · rw [hget_hset_ne hff]
      refine OR.mono hle (fun g => Mu.ins_other _ (.inl hff) _) (fun g b1 s1 m1 hm1 => ?_) (hH.obj f1)
      rw [hw, Array.getElem?_push, if_neg (by have := hH.lt _ _ _ _ _ hm1; omega)]
  · intro f1 g1 g2 b s m s2 m2 h1 h2 hg
    rcases Mu.ins_inv h1 with ⟨_, i1, e1⟩ | k1 <;> rcases Mu.ins_inv h2 with ⟨_, i2, e2⟩ | k2
    · omega
    · cases e1; exact absurd (hH.lt _ _ _ _ _ k2) (Nat.lt_irrefl _)
    · cases e2; exact absurd (hH.lt _ _ _ _ _ k1) (Nat.lt_irrefl _)
    · exact hH.side _ _ _ _ _ _ _ _ k1 k2 hg
theorem rowsScalar_of {rows : List (List AV)} {vs : List Value} (hs : rowsScalar rows = true) (hv : VRs μ (flat rows) vs) : ∀ v ∈ vs, v.oneCell' = true := by
  have key : ∀ (rows : List (List AV)), rowsScalar rows = true → allScalar (flat rows) = true := by
    intro rows
    induction rows with
    | nil => intro _; rfl
    | cons l ls ih =>
      intro hh
      have hh : cnd (allScalar l) (rowsScalar ls) false = true := hh
      rw [cnd_eq] at hh
      split at hh
      · rename_i h1
        have app : ∀ (a b : List AV), allScalar a = true → allScalar b = true → allScalar (a ++ b) = true := by
          intro a
          induction a with
          | nil => intro b _ hb; exact hb
          | cons x a iha =>
            intro b ha hb
            have ha : cnd x.scalar (allScalar a) false = true := ha
            show cnd x.scalar (allScalar (a ++ b)) false = true
            rw [cnd_eq] at ha ⊢
            split at ha
            · rename_i hx; rw [if_pos hx]; exact iha b ha hb
            · cases ha
        exact app _ _ h1 (ih hh)
      · cases hh
  exact allScalar_of (key rows hs) hv
end
end Go.Ev

namespace Go.Ev
set_option linter.unusedVariables false
set_option linter.unusedSectionVars false
set_option linter.unusedSimpArgs false
variable [Val] [Fk]
section
variable {E : Env} {P : Program} (hE : EnvOk E P) {B : Nat} {μ : Mu} {h : Hp} {w : World} (hH : HR B μ h w) {nx : Key} (hB : B ≤ w.heap.size)
  {L : Lo} {ρ : Operand → Value} {q : Operand → Opd} (hq : ∀ x, VR μ (getO (q x) L) (ρ x))
variable {d : Option Tmp} {ty : TypeId} {pos : String} {af : Array Edge} {gd : Option (Nat × Bool)} {a : AV} {h' : Hp} {nx' : Key}
theorem turns_val {o : Oper} {v : Value} {w' : World} {ν : Mu} (hrun : (execOp ρ o).run P w = .ok (.value v) w') (hv : VR ν a v) (hle : μ.le ν) (hh : HR B ν h' w') (he : Ext B w w') (hk : Kp h μ h' ν) : Turns P ρ B μ h w o a h' :=
  ⟨v, .value v, w', ν, hrun, rfl, hv, hle, hh, he, hk⟩
theorem fresh_inv {o : Ob} {v : AV} {r : Tn} (hf : fresh h nx o v = some r) : (hget nx h).isNone = true ∧ r = .mk v (hset nx o h) nx.next := by
  obtain ⟨h1, h2⟩ := cnd_inv hf
  cases h2; exact ⟨h1, rfl⟩
theorem HR.world {w' : World} (hH : HR B μ h w) (hw : w'.heap = w.heap) : HR B μ h w' := by
  refine ⟨hH.inj, fun f g b s n hm => by rw [hw]; exact hH.lt f g b s n hm, fun f => OR.mono (Mu.le_refl μ) (fun _ => rfl) (fun g b s n hm => by rw [hw]) (hH.obj f), hH.side, hH.fk, hH.start⟩
include hE hH hB hq in
theorem e_appendT {xs : Array Operand} {ats : Array TypeId} {st xt el : TypeId} {ts : List TypeId} {x y : Operand} {l : List Operand} {dx : TypeDesc} {k : Nat} {z : AV} (hx : xs.toList = x :: y :: l) (ht : ats.toList = st :: xt :: ts)
    (hu : E.und st = some (.slice el)) (hxt : E.und xt = some dx) (hn : ∀ kk, dx ≠ .int kk) (hsz : E.size el = some (k + 1)) (hz : zeroA E el = some z)
    (hz1 : Nat.beq z.cells.length (k + 1) = true) (hby : Nat.ble (bytesO E el) 1000000 = true) {n : Nat} {new : List (List AV)} {vs : List Value} (hlen : ∀ w', (Builtin.lenOf (ρ y)).run P w' = .ok n w') (hnl : new.length = n) (hnr : ∀ l ∈ new, l.length = k + 1) (hvs : VRs μ (flat new) vs)
    (hfc : ∀ w', w'.heap = w.heap → (Builtin.firstCells (k + 1) n (ρ y)).run P w' = .ok vs.toArray w') (hev : appTail (k + 1) (getO (q x) L) n new h nx = some (Tn.mk a h' nx')) :
    Turns P ρ B μ h w ⟨d, .call { callee := .builtin .append, args := xs, argTypes := ats }, ty, pos, af, gd⟩ a h' := by
  have hz1 := Nat.eq_of_beq_eq_true hz1
  have hby := Nat.le_of_ble_eq_true hby
  obtain ⟨i, zv, hi, hiz, hzv⟩ := hE.zero hz
  have hisz : i.size = k + 1 := by obtain ⟨i', h1, h2⟩ := hE.size hsz; rw [hi] at h1; cases h1; exact h2
  have hiby : i.bytes ≤ 1000000 := by
    unfold bytesO at hby
    split at hby
    · rename_i i' hi'
      have := hE.ts _ _ hi'
      rw [hi] at this; cases this; exact hby
    · omega
  have hzs : zv.cells.size = k + 1 := by
    have := (ofV_cells (μ := μ) zv).length
    rw [← hzv, hz1] at this; simpa using this.symm
  have a0 : (xs.map ρ)[0]? = some (ρ x) := by rw [← Array.getElem?_toList]; simp [hx]
  have a1 : (xs.map ρ)[1]? = some (ρ y) := by rw [← Array.getElem?_toList]; simp [hx]
  have t0 : ats[0]? = some st := by rw [← Array.getElem?_toList]; simp [ht]
  have t1 : ats[1]? = some xt := by rw [← Array.getElem?_toList]; simp [ht]
  have up := hE.und hu
  have uxp := hE.und hxt
  have runval : ∀ {v : Value} {w' : World}, (Builtin.append_ ats ty (xs.map ρ)).run P w = .ok v w' → (execOp ρ ⟨d, .call { callee := .builtin .append, args := xs, argTypes := ats }, ty, pos, af, gd⟩).run P w = .ok (.value v) w' :=
    fun hr => run_builtin rfl hr
  have hvl : vs.length = n * (k + 1) := by rw [← hvs.length, flat_length new hnr, hnl]
  -- a new block
  have newBlock : ∀ {base : Option Addr} {sLen sCap : Nat} {os : List Value} {old : List (List AV)}, ρ x = .slice base sLen sCap → sCap < sLen + n → sLen + n ≤ 1000000 → (∀ w', w'.heap = w.heap → (Builtin.firstCells i.size sLen (.slice base sLen sCap)).run P w' = .ok os.toArray w') →
      VRs μ (flat old) os → (∀ l ∈ old, l.length = k + 1) → old.length = sLen → ∃ cs cp, sLen + n ≤ cp ∧ cs.size = cp * (k + 1) ∧
        (Builtin.append_ ats ty (xs.map ρ)).run P w = .ok (.slice (some ⟨w.heap.size, 0, none⟩) (sLen + n) cp) (w.drew.alloc (.cells cs el)) ∧ ∀ j b, (flat (old ++ new))[j]? = some b → ∃ v, cs[0 + j]? = some v ∧ VR μ b v := by
    intro base sLen sCap os old hxx hlt hle hfo hvo holdr hol
    obtain ⟨cp, hcp, hrun⟩ := run_append_new (P := P) (w := w) (ty := ty) (ats := ats) (args := xs.map ρ) (base := base) (sLen := sLen) (sCap := sCap) (n := n) (y := ρ y) (os := os.toArray) (vs := vs.toArray) t0 t1 (by rw [a0, hxx]) a1 up uxp hn hi hiz (hlen w) hlt hle hiby
      (by rw [hisz]; exact hfc w.drew rfl) (hfo w.drew rfl)
    refine ⟨_, cp, hcp, ?_, hrun, ?_⟩
    · have hol' : os.length = sLen * (k + 1) := by rw [← hvo.length, flat_length old holdr, hol]
      simp only [Array.size_append, List.size_toArray, Builtin.zeroCells, Array.size_map, Array.size_range, hzs, hvl, hol']
      rw [← Nat.add_mul, ← Nat.add_mul]; congr 1; omega
    · intro j b hj
      rw [flat_append] at hj
      obtain ⟨v, e1, e2⟩ := (hvo.append hvs).get hj
      refine ⟨v, ?_, e2⟩
      rw [Nat.zero_add]
      have hjl : j < (os ++ vs).length := (List.getElem?_eq_some_iff.1 e1).1
      rw [Array.getElem?_append_left (by simpa using hjl)]
      rw [List.append_toArray, List.getElem?_toArray]
      exact e1
  have extNew : ∀ {o : Obj}, Ext B w (w.drew.alloc o) := fun {o} => ⟨rfl, rfl, rfl, by show w.heap.size ≤ (w.heap.push o).size; simp, fun kk hkk => by
    show (w.heap.push o)[kk]? = _
    rw [Array.getElem?_push, if_neg (by omega)]⟩
  have hxv := hq x
  unfold appTail at hev
  split at hev
  · rename_i e
    rw [e] at hxv; simp only [VR] at hxv
    by_cases hn0 : n = 0
    · subst hn0
      cases hev
      refine turns_val (runval (run_append_in (P := P) (w := w) t0 t1 (by rw [a0, hxv]) a1 up uxp hn hi (hlen w) (Nat.le_refl _) (by rw [hisz]; exact hfc w rfl) (w' := w) (by simp))) ?_ (Mu.le_refl _) hH (Ext.refl _ _) (Kp.refl _ _)
      simp only [VR]
    · have hb : Nat.beq n 0 = false := Bool.eq_false_iff.2 fun hh => hn0 (Nat.eq_of_beq_eq_true hh)
      rw [hb] at hev
      obtain ⟨hle, hev⟩ := cnd_inv (show cnd _ _ none = some _ from hev)
      have hle := Nat.le_of_ble_eq_true hle
      obtain ⟨hfree, hev⟩ := fresh_inv hev
      cases hev
      obtain ⟨cs, cp, hcp, hcs, hrun, hc⟩ := newBlock (base := none) (sLen := 0) (sCap := 0) (os := []) (old := []) hxv (by omega) (by omega) (fun w' _ => by simp [Builtin.firstCells]) .nil (by simp) rfl
      obtain ⟨e1, e2⟩ := HR.fresh (hH.world (w' := w.drew) rfl) hB hfree (w' := w.drew.alloc (.cells cs el)) rfl hnr (by simpa using hc)
      refine turns_val (runval hrun) ?_ e2 e1 extNew (Kp.new hfree)
      rw [Nat.zero_add]
      exact vr_newSl (w := w.drew) (Nat.le_refl _) (by omega) (fun hh => by cases hh) (by omega)
  · rename_i f g o len cap sz' ex e
    rw [e] at hxv; simp only [VR] at hxv
    obtain ⟨b, s, m, xo, c, hm, hxv, v1, v2, v3, hpl⟩ := hxv
    obtain ⟨hs', hev⟩ := cnd_inv hev
    have hs' := Nat.eq_of_beq_eq_true hs'
    subst hs'
    by_cases hn0 : n = 0
    · subst hn0
      cases hev
      have hvs0 : vs = [] := List.length_eq_zero_iff.1 (by rw [hvl]; simp)
      refine turns_val (runval (run_append_in (P := P) (w := w) t0 t1 (by rw [a0, hxv]) a1 up uxp hn hi (hlen w) (by omega) (by rw [hisz]; exact hfc w rfl) (w' := w) (by rw [hvs0]; simp [storeCells]))) ?_ (Mu.le_refl _) hH (Ext.refl _ _) (Kp.refl _ _)
      simp only [VR]
      exact ⟨b, s, m, xo, c, hm, rfl, v1, v2, v3, hpl⟩
    · have hb : Nat.beq n 0 = false := Bool.eq_false_iff.2 fun hh => hn0 (Nat.eq_of_beq_eq_true hh)
      rw [hb] at hev
      replace hev : appendSl (k + 1) f g o len cap ex new n h nx = some (Tn.mk a h' nx') := hev
      obtain ⟨hle, hev⟩ := cnd_inv hev
      have hle : len + n ≤ 1000000 := Nat.le_of_ble_eq_true hle
      obtain ⟨ro, gen, zz, dp, ext, t, ho, hev⟩ := asCells_some hev
      obtain ⟨hzz, hev⟩ := cnd_inv hev
      have hzz := Nat.eq_of_beq_eq_true hzz
      subst hzz
      obtain ⟨hmod, hev⟩ := cnd_inv hev
      have hmod : o % (k + 1) = 0 := Nat.eq_of_beq_eq_true hmod
      have e1 : o / (k + 1) * (k + 1) + o % (k + 1) = o := Nat.div_add_mod' o (k + 1)
      obtain ⟨hwf, hgen, hblk⟩ := hH.cells ho
      obtain ⟨hBb, hs0, cs, ce, fz, hheap, hfz, hcsz, hrows⟩ := hblk g b s m hm
      -- in place
      have inPlace : s ≤ o → xo = o - s → xo + c * (k + 1) ≤ m → len + n ≤ c → rowsScalar new = true →
          xo + len * (k + 1) + vs.length ≤ cs.size ∧ (Builtin.append_ ats ty (xs.map ρ)).run P w = .ok (.slice (some ⟨b, xo, none⟩) (len + n) c) (World.put w b (.cells (spliceA cs (xo + len * (k + 1)) vs) ce fz)) := by
        intro p1 p2 p3 p4 p5
        have hroom : xo + len * (k + 1) + vs.length ≤ cs.size := by
          rw [hcsz, hvl]
          have : (len + n) * (k + 1) ≤ c * (k + 1) := Nat.mul_le_mul_right _ p4
          rw [Nat.add_mul] at this; omega
        refine ⟨hroom, run_append_in (P := P) (w := w) t0 t1 (by rw [a0, hxv]) a1 up uxp hn hi (hlen w) p4 (by rw [hisz]; exact hfc w rfl) ?_⟩
        show (storeCells ((⟨b, xo, none⟩ : Addr).add (len * i.size)) vs).run P w = _
        rw [add_zero_spot, hisz]
        exact run_storeCells' vs 0 (xo + len * (k + 1)) cs w hheap hfz (by omega) (rowsScalar_of p5 hvs)
      by_cases hcap : Nat.ble (Nat.add len n) cap = true
      · rw [hcap] at hev
        obtain ⟨hro, hev⟩ := cnd_inv' (show cnd ro none _ = some _ from hev)
        subst hro
        obtain ⟨hg, hev⟩ := cnd_inv hev
        have hg := Nat.eq_of_beq_eq_true hg
        subst hg
        obtain ⟨hsc, hev⟩ := cnd_inv hev
        obtain ⟨c', hov, hev⟩ := opt_inv hev
        cases hev
        have hcap : len + n ≤ cap := Nat.le_of_ble_eq_true hcap
        rcases hpl with ⟨p1, p2, p3⟩ | ⟨p1, p2⟩
        · obtain ⟨q1, q2⟩ := inPlace p1 p2 p3 (by omega) hsc
          have hsr : s ≤ (o / (k + 1) + len) * (k + 1) := by rw [Nat.add_mul]; omega
          obtain ⟨r1, r2⟩ := overRows_HR hH ho hm hsr hov hnr (by omega) (Nat.succ_pos k) hvs hheap
          have hpos : (o / (k + 1) + len) * (k + 1) - s = xo + len * (k + 1) := by rw [Nat.add_mul]; omega
          rw [hpos] at r2
          refine turns_val (runval q2) ?_ (Mu.le_refl _) r2 (Ext.put (hBb rfl)) (Kp.set rfl)
          simp only [VR]
          exact ⟨b, s, m, xo, c, hm, rfl, hcap, v2, v3, .inl ⟨p1, p2, p3⟩⟩
        · omega
      · have hcap' := Bool.eq_false_iff.2 hcap
        rw [hcap'] at hev
        have hgt : cap < len + n := Nat.lt_of_not_le fun hh => hcap (Nat.ble_eq_true_of_le hh)
        -- the rows that are there
        have olds : ∀ {old : List (List AV)}, getRows t g len (o / (k + 1)) = some old → old.length = len ∧ (∀ l ∈ old, l.length = k + 1) ∧ ∃ os : List Value, VRs μ (flat old) os ∧ ∀ w', w'.heap = w.heap → (Builtin.firstCells i.size len (.slice (some ⟨b, xo, none⟩) len c)).run P w' = .ok os.toArray w' := by
          intro old hold
          rcases hpl with ⟨p1, p2, p3⟩ | ⟨p1, p2⟩
          · obtain ⟨q1, q2, cs', ce', fz', q3, os, q4, q5, q6⟩ := rows_load hH ho hm p1 hmod hold
            refine ⟨q1, q2, os, q4, fun w' hw' => ?_⟩
            show (loadCells ⟨b, xo, none⟩ (len * i.size)).run P w' = _
            rw [hisz, ← q5, p2]
            exact run_load_block (by rw [hw']; exact q3) q6
          · subst p1
            cases hold
            refine ⟨rfl, by simp, [], .nil, fun w' _ => ?_⟩
            show (loadCells ⟨b, xo, none⟩ (0 * i.size)).run P w' = _
            rw [Nat.zero_mul]; rfl
        cases hex : ex with
        | true =>
          rw [hex] at hev
          obtain ⟨old, hold, hev⟩ := opt_inv (show opt (getRows t g len (o / (k + 1))) none _ = some _ from hev)
          obtain ⟨hfree, hev⟩ := fresh_inv hev
          cases hev
          have hcc := v3 hex
          obtain ⟨o1, o2, os, o3, o4⟩ := olds hold
          obtain ⟨cs2, cp, hcp, hcs2, hrun, hc⟩ := newBlock hxv (by omega) hle o4 o3 o2 o1
          obtain ⟨f1, f2⟩ := HR.fresh (hH.world (w' := w.drew) rfl) hB hfree (w' := w.drew.alloc (.cells cs2 el)) (ls := old ++ new) rfl
            (fun l hl => by rcases List.mem_append.1 hl with h1 | h1; exact o2 l h1; exact hnr l h1) hc
          refine turns_val (runval hrun) ?_ f2 f1 extNew (Kp.new hfree)
          exact vr_newSl (w := w.drew) (Nat.le_refl _) hcp (fun hh => by cases hh) (by omega)
        | false =>
          rw [hex] at hev
          obtain ⟨hro, hev⟩ := cnd_inv' (show cnd ro none _ = some _ from hev)
          subst hro
          obtain ⟨hg, hev⟩ := cnd_inv hev
          have hg := Nat.eq_of_beq_eq_true hg
          subst hg
          obtain ⟨hext, hev⟩ := cnd_inv hev
          have hext : ext = o / (k + 1) + len := Nat.eq_of_beq_eq_true hext
          obtain ⟨hsc0, hev⟩ := cnd_inv hev
          obtain ⟨hns, hsc⟩ : g + 1 ≠ strGen ∧ rowsScalar new = true := by
            cases hb : Nat.beq (Nat.succ g) strGen with
            | true => rw [hb] at hsc0; cases hsc0
            | false => rw [hb] at hsc0; exact ⟨fun e => (by rw [Nat.succ_eq_add_one, e, Nat.beq_refl] at hb; cases hb), hsc0⟩
          obtain ⟨old, hold, hev⟩ := opt_inv hev
          obtain ⟨dp', cg, g1, g2, g3, hev⟩ := growTo_inv _ _ _ hwf.1 hev
          cases hev
          have g3 : ext + n ≤ 2 ^ dp' := g3
          obtain ⟨o1, o2, os, o3, o4⟩ := olds hold
          obtain ⟨w1, w2⟩ := addRows_sound (gw := g + 1) new cg ext g1 (by rw [hnl]; exact g3)
          have w2' : ∀ kk, (addRows dp' (g + 1) cg ext new).get kk = if ext ≤ kk ∧ kk < ext + new.length then (new[kk - ext]?).map (Row.mk · (g + 1)) else t.get kk := fun kk => by rw [w2, g2]
          by_cases hin : len + n ≤ c
          · rcases hpl with ⟨p1, p2, p3⟩ | ⟨p1, p2⟩
            · obtain ⟨q1, q2⟩ := inPlace p1 p2 p3 hin hsc
              have hpos : ext * (k + 1) - s = xo + len * (k + 1) := by rw [hext, Nat.add_mul]; omega
              obtain ⟨r1, r2⟩ := HR.growIn hH hns ho hm hheap w1 hnr (by rw [hext, Nat.add_mul]; omega) (by rw [hpos]; exact q1) hvs w2'
              rw [hpos, hnl] at r1
              refine turns_val (runval q2) ?_ r2 r1 (Ext.put (hBb rfl)) (Kp.setIns rfl hm)
              simp only [VR]
              exact ⟨b, s, m, xo, c, Mu.ins_same _ _ _ _, rfl, Nat.le_refl _, hin, (fun hh => by cases hh), .inl ⟨p1, p2, p3⟩⟩
            · omega
          · obtain ⟨cs2, cp, hcp, hcs2, hrun, hc⟩ := newBlock hxv (by omega) hle o4 o3 o2 o1
            obtain ⟨f1, f2⟩ := HR.growNew (hH.world (w' := w.drew) rfl) hB ho hm (w' := w.drew.alloc (.cells cs2 el)) (old := old) (new := new) (o := o) rfl w1
              (fun l hl => by rcases List.mem_append.1 hl with h1 | h1; exact o2 l h1; exact hnr l h1) (Nat.succ_pos k) hmod (by rw [hext, o1])
              (fun ii l hl => by obtain ⟨gw, z1, _⟩ := (getRows_get len _ old hold).2 ii l hl; exact ⟨gw, z1⟩) hc w2'
            rw [hnl] at f1
            refine turns_val (runval hrun) ?_ f2 f1 extNew (Kp.setIns rfl hm)
            simp only [VR]
            exact ⟨w.heap.size, o, cs2.size, 0, cp, Mu.ins_same _ _ _ _, rfl, Nat.le_refl _, hcp, (fun hh => by cases hh), .inl ⟨Nat.le_refl _, by omega, by omega⟩⟩
  · cases hev
include hE hH hB hq in
theorem e_append {xs : Array Operand} {ats : Array TypeId} {st xt el : TypeId} {ts : List TypeId} {x y : Operand} {l : List Operand} {dx : TypeDesc} {k : Nat} {z : AV} (hx : xs.toList = x :: y :: l) (ht : ats.toList = st :: xt :: ts)
    (hu : E.und st = some (.slice el)) (hxt : E.und xt = some dx) (hn : ∀ kk, dx ≠ .int kk) (hsz : E.size el = some (k + 1)) (hz : zeroA E el = some z)
    (hz1 : Nat.beq z.cells.length (k + 1) = true) (hby : Nat.ble (bytesO E el) 1000000 = true) (hev : xAppend (k + 1) (q x) (q y) h nx L = some (Tn.mk a h' nx')) :
    Turns P ρ B μ h w ⟨d, .call { callee := .builtin .append, args := xs, argTypes := ats }, ty, pos, af, gd⟩ a h' := by
  obtain ⟨n, hl, hev⟩ := opt_inv hev
  obtain ⟨new, hnew, hev⟩ := opt_inv hev
  obtain ⟨hlen, hnl, hnr, vs, hvs, hfc⟩ := firstRows_sound (P := P) hH (hq y) hl (Nat.le_refl _) hnew
  exact e_appendT hE hH hB hq hx ht hu hxt hn hsz hz hz1 hby hlen hnl hnr hvs hfc hev
end
end Go.Ev
