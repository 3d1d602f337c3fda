/- THE EVALUATOR, part 7 of 13: EvNamE EvEff8 EvSteps EvCtl1 EvCtl2 -/
import Derived.Test.YtadnhmpkfelofaaGreatDoorEv6
import Derived.Calls
import Derived.Listen
set_option linter.unusedVariables false
set_option linter.unusedSectionVars false
set_option linter.unusedSimpArgs false
namespace Go.Ev
set_option linter.unusedVariables false
set_option linter.unusedSectionVars false
set_option linter.unusedSimpArgs false
variable [Val] [Fk]
def Cont (μ : Mu) (get : Nat → Option Value) (sz : Nat) (l : List (List Value)) (sfx : List (List AV)) : Prop :=
  (∀ (r : Nat) row, l[r]? = some row → ∀ (j : Nat) v, row[j]? = some v → get (r * sz + j) = some v) ∧
  ∀ (i : Nat) x, sfx[i]? = some x → ∀ (j : Nat) a, x[j]? = some a → ∃ v, get ((l.length + i) * sz + j) = some v ∧ VR μ a v
theorem Cont.of {μ : Mu} {cs : Array Value} {s sz : Nat} {l : List (List Value)} {sfx : List (List AV)} (h1 : LstAt cs s sz l) (h2 : SfxAt μ cs s sz l.length sfx) : Cont μ (fun i => cs[s + i]?) sz l sfx :=
  ⟨fun r row hr j v hj => by have := h1 r row hr j v hj; rwa [Nat.add_assoc] at this, fun i x hi j a hj => by
    obtain ⟨v, e1, e2⟩ := h2 i x hi j a hj
    exact ⟨v, by rwa [Nat.add_assoc] at e1, e2⟩⟩
theorem Cont.lst {μ : Mu} {cs : Array Value} {s sz : Nat} {l : List (List Value)} {sfx : List (List AV)} (h : Cont μ (fun i => cs[s + i]?) sz l sfx) : LstAt cs s sz l :=
  fun r row hr j v hj => by have : cs[s + (r * sz + j)]? = some v := h.1 r row hr j v hj; rwa [← Nat.add_assoc] at this
theorem Cont.sfx {μ : Mu} {cs : Array Value} {s sz : Nat} {l : List (List Value)} {sfx : List (List AV)} (h : Cont μ (fun i => cs[s + i]?) sz l sfx) : SfxAt μ cs s sz l.length sfx :=
  fun i x hi j a hj => by obtain ⟨v, e1, e2⟩ := h.2 i x hi j a hj; exact ⟨v, by have e1 : cs[s + ((l.length + i) * sz + j)]? = some v := e1; rwa [← Nat.add_assoc] at e1, e2⟩
theorem Cont.mono {μ ν : Mu} (h : μ.le ν) {get : Nat → Option Value} {sz : Nat} {l : List (List Value)} {sfx : List (List AV)} (k : Cont μ get sz l sfx) : Cont ν get sz l sfx :=
  ⟨k.1, fun i x hi j a hj => by obtain ⟨v, e1, e2⟩ := k.2 i x hi j a hj; exact ⟨v, e1, VR.mono h _ _ e2⟩⟩
theorem row_lt {n r j sz : Nat} (hr : r < n) (hj : j < sz) : r * sz + j < n * sz := by
  have : (r + 1) * sz ≤ n * sz := Nat.mul_le_mul_right sz hr
  rw [Nat.add_mul] at this; omega
theorem Cont.congr {μ : Mu} {get get' : Nat → Option Value} {sz n : Nat} {l : List (List Value)} {sfx : List (List AV)} (k : Cont μ get sz l sfx) (h1 : ∀ row ∈ l, row.length = sz) (h2 : ∀ x ∈ sfx, x.length = sz)
    (hn : l.length + sfx.length ≤ n) (h : ∀ i, i < n * sz → get' i = get i) : Cont μ get' sz l sfx := by
  refine ⟨fun r row hr j v hj => ?_, fun i x hi j a hj => ?_⟩
  · have a1 := (List.getElem?_eq_some_iff.1 hr).1
    have a2 := (List.getElem?_eq_some_iff.1 hj).1
    rw [h1 row (List.mem_of_getElem? hr)] at a2
    rw [h _ (row_lt (by omega) a2)]
    exact k.1 r row hr j v hj
  · have a1 := (List.getElem?_eq_some_iff.1 hi).1
    have a2 := (List.getElem?_eq_some_iff.1 hj).1
    rw [h2 x (List.mem_of_getElem? hi)] at a2
    obtain ⟨v, e1, e2⟩ := k.2 i x hi j a hj
    exact ⟨v, by rw [h _ (row_lt (by omega) a2)]; exact e1, e2⟩
theorem flatL_get {sz : Nat} : ∀ {ls : List (List AV)}, (∀ l ∈ ls, l.length = sz) → ∀ {i : Nat} {x : List AV} {j : Nat} {a : AV}, ls[i]? = some x → x[j]? = some a → (flat ls)[i * sz + j]? = some a
  | [], _, i, x, j, a, hi, _ => by simp at hi
  | l :: ls, h, 0, x, j, a, hi, hj => by
    simp at hi; subst hi
    have := (List.getElem?_eq_some_iff.1 hj).1
    simp only [flat, Nat.zero_mul, Nat.zero_add]
    rw [List.getElem?_append_left this]; exact hj
  | l :: ls, h, i + 1, x, j, a, hi, hj => by
    simp at hi
    have hl : l.length = sz := h l (List.mem_cons_self ..)
    simp only [flat]
    rw [List.getElem?_append_right (by rw [Nat.add_mul]; omega)]
    have := flatL_get (sz := sz) (fun y hy => h y (List.mem_cons_of_mem _ hy)) hi hj
    rw [← this]
    congr 1
    rw [Nat.add_mul]; omega
theorem Cont.more {μ : Mu} {get : Nat → Option Value} {sz : Nat} {l : List (List Value)} {sfx new : List (List AV)} (k : Cont μ get sz l sfx) (h3 : ∀ x ∈ new, x.length = sz) {vs : List Value} (hv : VRs μ (flat new) vs)
    (h : ∀ j v, vs[j]? = some v → get ((l.length + sfx.length) * sz + j) = some v) : Cont μ get sz l (sfx ++ new) := by
  refine ⟨k.1, fun i x hi j a hj => ?_⟩
  by_cases hlt : i < sfx.length
  · rw [List.getElem?_append_left hlt] at hi
    exact k.2 i x hi j a hj
  · rw [List.getElem?_append_right (by omega)] at hi
    obtain ⟨v, e1, e2⟩ := hv.get (flatL_get h3 hi hj)
    refine ⟨v, ?_, e2⟩
    rw [← h _ v e1]
    congr 1
    have : (l.length + i) * sz = (l.length + sfx.length) * sz + (i - sfx.length) * sz := by rw [← Nat.add_mul]; congr 1; omega
    omega
section
variable {E : Env} {P : Program} (hE : EnvOk E P) {B : Nat} {μ : Mu} {h : Hp} {w : World} (hH : HR B μ h w) {nx : Key} (hB : B ≤ w.heap.size)
  {L : Lo} {ρ : Operand → Value} {q : Operand → Opd} (hq : ∀ x, VR μ (getO (q x) L) (ρ x))
variable {d : Option Tmp} {ty : TypeId} {pos : String} {af : Array Edge} {gd : Option (Nat × Bool)} {a : AV} {h' : Hp} {nx' : Key}
include hH in
theorem nsl_first {f : Key} {g sz : Nat} {k : Key} {c : Int} {q' : Key} {d' m : Int} {y : Value} {n : Nat} {rows : List (List AV)} (hy : VR μ (.nsl f g sz k c q' d' m) y) (hle : nz k + c + n ≤ nz q' + d')
    (hr : rowsN h f g sz k c n = some rows) :
    rows.length = n ∧ (∀ l ∈ rows, l.length = sz) ∧ ∃ vs : List Value, VRs μ (flat rows) vs ∧ ∀ w', w'.heap = w.heap → (Builtin.firstCells sz n y).run P w' = .ok vs.toArray w' := by
  simp only [VR] at hy
  obtain ⟨base, len, cp, rfl, h1, h2, h3, h4⟩ := hy
  rcases h4 with h4 | ⟨b, s, nn, r, hm, hrr, hb, hl⟩
  · have hn : n = 0 := by omega
    subst hn
    cases hr
    refine ⟨rfl, by simp, [], .nil, fun w' _ => ?_⟩
    cases base with
    | none => rfl
    | some ad => show (loadCells ad (0 * sz)).run P w' = _; rw [Nat.zero_mul]; rfl
  · obtain ⟨r1, r2, r3⟩ := rowsN_sound hH hm n c r rows hrr hr
    by_cases hn : n = 0
    · subst hn
      cases hr
      refine ⟨rfl, by simp, [], .nil, fun w' _ => ?_⟩
      rw [hb]
      show (loadCells _ (0 * sz)).run P w' = _; rw [Nat.zero_mul]; rfl
    · obtain ⟨cs, e, fz, hheap, hcs⟩ : ∃ cs e fz, w.heap[b]? = some (.cells cs e fz) ∧ cs.size = nn := by
        obtain ⟨cs, e, fz, e1, e2, _⟩ := r3 0 (rows[0]'(by omega)) (List.getElem?_eq_getElem (by omega))
        exact ⟨cs, e, fz, e1, e2⟩
      have fl := flat_length rows r2
      obtain ⟨vs, v1, v2⟩ := vals_of' (μ := μ) (cs := cs) (flat rows) (s + r * sz) (fun j a' hj => by
        have hjl := (List.getElem?_eq_some_iff.1 hj).1
        rw [fl, r1] at hjl
        have hz : 0 < sz := by
          rcases Nat.eq_zero_or_pos sz with h0 | h0
          · subst h0; simp at hjl
          · exact h0
        have hi : j / sz < n := Nat.div_lt_of_lt_mul (by rw [Nat.mul_comm]; exact hjl)
        obtain ⟨cs', e', fz', e1, e2, e3⟩ := r3 (j / sz) (rows[j / sz]'(by omega)) (List.getElem?_eq_getElem (by omega))
        rw [hheap] at e1
        cases e1
        have hlr : (rows[j / sz]'(by omega)).length = sz := r2 _ (List.getElem_mem _)
        have hjm : j % sz < (rows[j / sz]'(by omega)).length := by rw [hlr]; exact Nat.mod_lt _ hz
        have e4 := flatL_get r2 (List.getElem?_eq_getElem (by omega : j / sz < rows.length)) (List.getElem?_eq_getElem hjm)
        have e5 : j / sz * sz + j % sz = j := Nat.div_add_mod' j sz
        rw [e5, hj] at e4
        obtain ⟨v, e6, e7⟩ := e3 (j % sz) a' (by rw [List.getElem?_eq_getElem hjm]; exact e4.symm)
        refine ⟨v, ?_, e7⟩
        rw [← e6]; congr 1
        rw [Nat.add_mul]; omega)
      have hvl : vs.length = n * sz := by rw [← v1.length, fl, r1]
      refine ⟨r1, r2, vs, v1, fun w' hw' => ?_⟩
      rw [hb]
      show (loadCells ⟨b, s + r * sz, none⟩ (n * sz)).run P w' = _
      rw [← hvl]
      exact run_load_block (by rw [hw']; exact hheap) v2
include hH hq in
theorem rowsY_sound {y : Operand} {sz : Nat} {new : List (List AV)} (hr : rowsY h sz (getO (q y) L) = some new) : ∃ n, (∀ w', (Builtin.lenOf (ρ y)).run P w' = .ok n w') ∧ new.length = n ∧ (∀ l ∈ new, l.length = sz) ∧
    ∃ vs : List Value, VRs μ (flat new) vs ∧ ∀ w', w'.heap = w.heap → (Builtin.firstCells sz n (ρ y)).run P w' = .ok vs.toArray w' := by
  rcases asNsl_some hr with ⟨f, g, sz', k, c, q', d', m, e, hr⟩ | ⟨_, hr⟩
  · have hy := hq y
    rw [e] at hy
    replace hr := cnd_inv hr
    obtain ⟨hz, hr⟩ := hr
    obtain rfl := Nat.eq_of_beq_eq_true hz
    obtain ⟨n, hd, hr⟩ := opt_inv hr
    rw [icase_eq] at hr
    have hdd := disX_sound hH.fk hd
    cases n with
    | negSucc n => cases hr
    | ofNat n =>
      obtain ⟨r1, r2, vs, r3, r4⟩ := nsl_first (P := P) hH hy (n := n) (by rw [hdd]; exact Int.le_refl _) hr
      have hlen : ∀ w', (Builtin.lenOf (ρ y)).run P w' = .ok n w' := fun w' => by
        obtain ⟨base, len, cp, ex, h1, h2, h3, h4⟩ := q_nsl hq e
        have : len = n := by simp only [Int.ofNat_eq_natCast] at hdd; omega
        rw [ex, this]; simp [Builtin.lenOf]
      exact ⟨n, hlen, r1, r2, vs, r3, r4⟩
  · obtain ⟨n, hl, hr⟩ := opt_inv hr
    obtain ⟨h1, h2, h3, vs, h4, h5⟩ := firstRows_sound (P := P) hH (hq y) hl (Nat.le_refl _) hr
    exact ⟨n, h1, h2, h3, vs, h4, h5⟩
include hH in
theorem HR.lstIn {f : Key} {gen sz : Nat} {q' : Key} {sfx new : List (List AV)} {b s n : Nat} {cs : Array Value} {e : TypeId} {vs : List Value} (ho : hget f h = .lst false gen sz q' sfx) (hm : μ f gen = some (b, s, n))
    (hheap : w.heap[b]? = some (.cells cs e (0, 0))) (hg : gen + 1 < strGen) (hnr : ∀ l ∈ new, l.length = sz) (hv : VRs μ (flat new) vs) (hroom : s + ((Val.l q').length + sfx.length) * sz + vs.length ≤ cs.size) :
    HR B (μ.ins f (gen + 1) (b, s, n)) (hset f (.lst false (gen + 1) sz q' (sfx ++ new)) h) (World.put w b (.cells (spliceA cs (s + ((Val.l q').length + sfx.length) * sz) vs) e (0, 0))) ∧ μ.le (μ.ins f (gen + 1) (b, s, n)) := by
  obtain ⟨⟨⟨k0, k1⟩, k2⟩, ⟨k3, k4⟩, k5⟩ := hH.lst ho
  have hle : μ.le (μ.ins f (gen + 1) (b, s, n)) := Mu.ins_le (k3 _ (Nat.lt_succ_self _)) _
  have hbl := hH.lt _ _ _ _ _ hm
  have hBb : B ≤ b := (k5 _ _ _ _ hm).1.1 rfl
  have same : ∀ i, i < ((Val.l q').length + sfx.length) * sz → (spliceA cs (s + ((Val.l q').length + sfx.length) * sz) vs)[s + i]? = cs[s + i]? := by
    intro i hi
    rw [spliceA_get _ _ _ _ hroom, if_neg (by omega)]
  refine ⟨⟨?_, ?_, ?_, ?_, hH.fk, fun f1 b1 s1 n1 h1 => (Mu.ins_inv h1).elim (fun h => by obtain ⟨_, h2, h3⟩ := h; first | omega | (cases h3; rfl)) fun h => hH.start _ _ _ _ h⟩, hle⟩
  · intro f1 g1 b1 s1 m1 f2 g2 s2 m2 h1 h2 hc
    rcases Mu.ins_inv h1 with ⟨i1, _, e1⟩ | c1 <;> rcases Mu.ins_inv h2 with ⟨i2, _, e2⟩ | c2
    · cases e1; cases e2; exact ⟨i1.trans i2.symm, rfl, rfl⟩
    · cases e1; subst i1; exact hH.inj _ _ _ _ _ _ _ _ _ hm c2 (.inr hBb)
    · cases e2; subst i2; exact hH.inj _ _ _ _ _ _ _ _ _ c1 hm (.inr hBb)
    · exact hH.inj _ _ _ _ _ _ _ _ _ c1 c2 hc
  · intro f1 g1 b1 s1 m1 h1
    simp only [World.put, Array.size_setIfInBounds]
    rcases Mu.ins_inv h1 with ⟨rfl, rfl, e1⟩ | c1
    · cases e1; exact hbl
    · exact hH.lt _ _ _ _ _ c1
  · intro f1
    by_cases hff : f = f1
    · subst hff
      rw [hget_hset]
      refine ⟨⟨⟨k0, k1⟩, fun l hl => ?_⟩, ⟨fun g hgg => ?_, fun _ => hg⟩, fun g b1 s1 n1 hm1 => ?_⟩
      · rcases List.mem_append.1 hl with hl | hl
        · exact k2 l hl
        · exact hnr l hl
      · rw [Mu.ins_other _ (.inr (by omega))]; exact k3 g (by omega)
      · obtain ⟨_, cs0, e0, fz0, j1, j2, j3, j4, j5⟩ := k5 gen b s n hm
        rw [hheap] at j1
        cases j1
        have ct := Cont.of j4 (j5 rfl)
        rcases Mu.ins_inv hm1 with ⟨_, rfl, e1⟩ | c1
        · cases e1
          have ct' : Cont μ (fun i => (spliceA cs (s + ((Val.l q').length + sfx.length) * sz) vs)[s + i]?) sz (Val.l q') (sfx ++ new) := by
            refine (ct.congr k1 k2 (Nat.le_refl _) same).more hnr hv (fun j v hj => ?_)
            have hjl := (List.getElem?_eq_some_iff.1 hj).1
            show (spliceA cs (s + ((Val.l q').length + sfx.length) * sz) vs)[s + (((Val.l q').length + sfx.length) * sz + j)]? = some v
            rw [spliceA_get _ _ _ _ hroom, if_pos (by omega), ← hj]
            congr 1; omega
          have ct'' := ct'.mono hle
          exact ⟨⟨fun _ => hBb, fun hh => by cases hh⟩, _, e, (0, 0), put_get hbl, fun _ => rfl, by rw [spliceA_size]; exact j3, ct''.lst, fun _ => ct''.sfx⟩
        · have hgl : g ≤ gen := Nat.le_of_not_lt fun hh => by rw [k3 g hh] at c1; cases c1
          obtain ⟨a0, cs1, e1, fz1, a1, a2, a3, a4, a5⟩ := k5 g b1 s1 n1 c1
          by_cases hb : b1 = b
          · subst hb
            obtain ⟨_, rfl, rfl⟩ := hH.inj _ _ _ _ _ _ _ _ _ hm c1 (.inr hBb)
            have ct1 : Cont μ (fun i => (spliceA cs (s + ((Val.l q').length + sfx.length) * sz) vs)[s + i]?) sz (Val.l q') sfx := ct.congr k1 k2 (Nat.le_refl _) same
            refine ⟨a0, _, e, (0, 0), put_get hbl, fun _ => rfl, by rw [spliceA_size]; exact j3, ct1.lst, fun hh => by omega⟩
          · refine ⟨a0, cs1, e1, fz1, ?_, a2, a3, a4, fun hh => by omega⟩
            simp only [World.put]; rw [Array.getElem?_setIfInBounds_ne (Ne.symm hb)]; exact a1
    · rw [hget_hset_ne hff]
      refine OR.mono hle (fun g => Mu.ins_other _ (.inl hff) _) (fun g b1 s1 m1 hm1 => ?_) (hH.obj f1)
      have hne : b ≠ b1 := fun hb => by subst hb; exact hff (hH.inj _ _ _ _ _ _ _ _ _ hm hm1 (.inr hBb)).1
      simp only [World.put]
      rw [Array.getElem?_setIfInBounds_ne hne]
  · intro f1 g1 g2 b1 s1 m1 s2 m2 h1 h2 hgg
    rcases Mu.ins_inv h1 with ⟨i0, i1, e1⟩ | c1 <;> rcases Mu.ins_inv h2 with ⟨j0, i2, e2⟩ | c2
    · omega
    · omega
    · cases e2
      subst j0
      have := hH.side _ g1 gen _ _ _ _ _ c1 hm hgg
      omega
    · exact hH.side _ _ _ _ _ _ _ _ c1 c2 hgg
include hH hB in
theorem HR.lstNew {f : Key} {gen sz : Nat} {q' : Key} {sfx new : List (List AV)} {cs : Array Value} {e : TypeId} {w' : World} (ho : hget f h = .lst false gen sz q' sfx)
    (hw : w'.heap = w.heap.push (.cells cs e (0, 0))) (hg : gen + 1 < strGen) (hnr : ∀ l ∈ new, l.length = sz) (hc : Cont μ (fun i => cs[0 + i]?) sz (Val.l q') (sfx ++ new)) :
    HR B (μ.ins f (gen + 1) (w.heap.size, 0, cs.size)) (hset f (.lst false (gen + 1) sz q' (sfx ++ new)) h) w' ∧ μ.le (μ.ins f (gen + 1) (w.heap.size, 0, cs.size)) := by
  obtain ⟨⟨⟨k0, k1⟩, k2⟩, ⟨k3, k4⟩, k5⟩ := hH.lst ho
  have hle : μ.le (μ.ins f (gen + 1) (w.heap.size, 0, cs.size)) := Mu.ins_le (k3 _ (Nat.lt_succ_self _)) _
  refine ⟨⟨?_, ?_, ?_, ?_, hH.fk, fun f1 b1 s1 n1 h1 => (Mu.ins_inv h1).elim (fun h => by obtain ⟨_, h2, h3⟩ := h; first | omega | (cases h3; rfl)) fun h => hH.start _ _ _ _ h⟩, hle⟩
  · intro f1 g1 b1 s1 m1 f2 g2 s2 m2 h1 h2 hcc
    rcases Mu.ins_inv h1 with ⟨i1, _, e1⟩ | c1 <;> rcases Mu.ins_inv h2 with ⟨i2, _, e2⟩ | c2
    · cases e1; cases e2; exact ⟨i1.trans i2.symm, rfl, rfl⟩
    · cases e1; exact absurd (hH.lt _ _ _ _ _ c2) (Nat.lt_irrefl _)
    · cases e2; exact absurd (hH.lt _ _ _ _ _ c1) (Nat.lt_irrefl _)
    · exact hH.inj _ _ _ _ _ _ _ _ _ c1 c2 hcc
  · intro f1 g1 b1 s1 m1 h1
    rw [hw, Array.size_push]
    rcases Mu.ins_inv h1 with ⟨rfl, rfl, e1⟩ | c1
    · cases e1; omega
    · have := hH.lt _ _ _ _ _ c1; omega
  · intro f1
    by_cases hff : f = f1
    · subst hff
      rw [hget_hset]
      refine ⟨⟨⟨k0, k1⟩, fun l hl => ?_⟩, ⟨fun g hgg => ?_, fun _ => hg⟩, fun g b1 s1 n1 hm1 => ?_⟩
      · rcases List.mem_append.1 hl with hl | hl
        · exact k2 l hl
        · exact hnr l hl
      · rw [Mu.ins_other _ (.inr (by omega))]; exact k3 g (by omega)
      · rcases Mu.ins_inv hm1 with ⟨_, rfl, e1⟩ | c1
        · cases e1
          have ct := hc.mono hle
          exact ⟨⟨fun _ => hB, fun hh => by cases hh⟩, cs, e, (0, 0), by rw [hw]; simp, fun _ => rfl, rfl, ct.lst, fun _ => ct.sfx⟩
        · have hgl : g ≤ gen := Nat.le_of_not_lt fun hh => by rw [k3 g hh] at c1; cases c1
          obtain ⟨a0, cs1, e1, fz1, a1, a2, a3, a4, a5⟩ := k5 g b1 s1 n1 c1
          refine ⟨a0, cs1, e1, fz1, ?_, a2, a3, a4, fun hh => by omega⟩
          rw [hw, Array.getElem?_push, if_neg (by have := hH.lt _ _ _ _ _ c1; omega)]; exact a1
    · rw [hget_hset_ne hff]
      refine OR.mono hle (fun g => Mu.ins_other _ (.inl hff) _) (fun g b1 s1 m1 hm1 => ?_) (hH.obj f1)
      rw [hw, Array.getElem?_push, if_neg (by have := hH.lt _ _ _ _ _ hm1; omega)]
  · intro f1 g1 g2 b1 s1 m1 s2 m2 h1 h2 hgg
    rcases Mu.ins_inv h1 with ⟨i0, i1, e1⟩ | c1 <;> rcases Mu.ins_inv h2 with ⟨j0, i2, e2⟩ | c2
    · omega
    · omega
    · cases e2; exact absurd (hH.lt _ _ _ _ _ c1) (Nat.lt_irrefl _)
    · exact hH.side _ _ _ _ _ _ _ _ c1 c2 hgg
include hH hB in
theorem HR.lstFresh {sz : Nat} {q' : Key} {cs : Array Value} {e : TypeId} {w' : World} (hnx : (hget nx h).isNone = true) (hn : nz q' = (Val.l q').length) (hrl : ∀ row ∈ Val.l q', row.length = sz)
    (hw : w'.heap = w.heap.push (.cells cs e (0, 0))) (hc : LstAt cs 0 sz (Val.l q')) :
    HR B (μ.ins nx 0 (w.heap.size, 0, cs.size)) (hset nx (.lst false 0 sz q' []) h) w' ∧ μ.le (μ.ins nx 0 (w.heap.size, 0, cs.size)) := by
  refine hH.alloc hnx hw ⟨⟨⟨hn, hrl⟩, by simp⟩, ⟨fun g hgg => ?_, fun _ => by decide⟩, fun g b1 s1 n1 hm1 => ?_⟩
  · rw [Mu.ins_other _ (.inr (by omega))]; exact hH.noneAt hnx g
  · rcases Mu.ins_inv hm1 with ⟨_, rfl, e1⟩ | c1
    · cases e1
      exact ⟨⟨fun _ => hB, fun hh => by cases hh⟩, cs, e, (0, 0), by rw [hw]; simp, fun _ => rfl, rfl, hc, fun _ i l hi => by simp at hi⟩
    · rw [hH.noneAt hnx g] at c1; cases c1
theorem isEmptyS_sound {sz : Nat} {X : AV} {v : Value} (hv : VR μ X v) (h : isEmptyS sz X = true) : ∃ base, v = .slice base 0 0 := by
  unfold isEmptyS at h
  split at h
  · simp only [VR] at hv; exact ⟨none, hv⟩
  · obtain ⟨h1, h⟩ := cnd_true_inv h
    obtain ⟨h2, h⟩ := cnd_true_inv h
    obtain ⟨h3, h⟩ := cnd_true_inv h
    have h1 := Nat.eq_of_beq_eq_true h1
    have h2 := Nat.eq_of_beq_eq_true h2
    simp only [VR] at hv
    obtain ⟨b, s, n, x, c, _, e, _, _, hx, _⟩ := hv
    have hc := hx h
    subst h1 h2
    exact ⟨_, by rw [e, hc]⟩
  · cases h
include hE hH hB hq in
theorem e_appendX {xs : Array Operand} {ats : Array TypeId} {st xt el : TypeId} {ts : List TypeId} {x y : Operand} {l : List Operand} {dx : TypeDesc} {k : Nat} {z : AV} (hx : xs.toList = x :: y :: l) (ht : ats.toList = st :: xt :: ts)
    (hu : E.und st = some (.slice el)) (hxt : E.und xt = some dx) (hn : ∀ kk, dx ≠ .int kk) (hsz : E.size el = some (k + 1)) (hz : zeroA E el = some z)
    (hz1 : Nat.beq z.cells.length (k + 1) = true) (hby : Nat.ble (bytesO E el) 1000000 = true) (hev : xAppendX (k + 1) (q x) (q y) h nx L = some (Tn.mk a h' nx')) :
    Turns P ρ B μ h w ⟨d, .call { callee := .builtin .append, args := xs, argTypes := ats }, ty, pos, af, gd⟩ a h' := by
  unfold xAppendX at hev
  cases hns : cnd (isNsl (getO (q x) L)) true (isNsl (getO (q y) L)) with
  | false => rw [hns] at hev; exact e_append hE hH hB hq hx ht hu hxt hn hsz hz hz1 hby hev
  | true =>
  rw [hns] at hev
  replace hev : appN (k + 1) (getO (q x) L) (getO (q y) L) h nx = some (Tn.mk a h' nx') := hev
  -- what the model needs
  have hz1' := Nat.eq_of_beq_eq_true hz1
  have hby' := Nat.le_of_ble_eq_true hby
  obtain ⟨i, zv, hi, hiz, hzv⟩ := hE.zero hz
  have hisz : i.size = k + 1 := by obtain ⟨i', h1, h2⟩ := hE.size hsz; rw [hi] at h1; cases h1; exact h2
  have hiby : i.bytes ≤ 1000000 := by
    unfold bytesO at hby'
    split at hby'
    · rename_i i' hi'
      have := hE.ts _ _ hi'
      rw [hi] at this; cases this; exact hby'
    · omega
  have hzs : zv.cells.size = k + 1 := by
    have := (ofV_cells (μ := μ) zv).length
    rw [← hzv, hz1'] at this; simpa using this.symm
  have a0 : (xs.map ρ)[0]? = some (ρ x) := by rw [← Array.getElem?_toList]; simp [hx]
  have a1 : (xs.map ρ)[1]? = some (ρ y) := by rw [← Array.getElem?_toList]; simp [hx]
  have t0 : ats[0]? = some st := by rw [← Array.getElem?_toList]; simp [ht]
  have t1 : ats[1]? = some xt := by rw [← Array.getElem?_toList]; simp [ht]
  have up := hE.und hu
  have uxp := hE.und hxt
  have runval : ∀ {v : Value} {w' : World}, (Builtin.append_ ats ty (xs.map ρ)).run P w = .ok v w' → (execOp ρ ⟨d, .call { callee := .builtin .append, args := xs, argTypes := ats }, ty, pos, af, gd⟩).run P w = .ok (.value v) w' :=
    fun hr => run_builtin rfl hr
  have extNew : ∀ {o : Obj}, Ext B w (w.drew.alloc o) := fun {o} => ⟨rfl, rfl, rfl, by show w.heap.size ≤ (w.heap.push o).size; simp, fun kk hkk => by
    show (w.heap.push o)[kk]? = _
    rw [Array.getElem?_push, if_neg (by omega)]⟩
  unfold appN at hev
  cases hry : rowsY h (k + 1) (getO (q y) L) with
  | some new =>
    rw [hry] at hev
    obtain ⟨n, hlen, hnl, hnr, vs, hvs, hfc⟩ := rowsY_sound (P := P) hH hq hry
    rw [opt_some] at hev
    rcases asNsl_some hev with ⟨f, g, sz', kk, c, q', d', m, e, hev⟩ | ⟨_, hev⟩
    · have hxv := hq x
      obtain ⟨base, len, cp, ex, e1, e2, e3, e4⟩ := q_nsl hq e
      by_cases hn0 : new.length = 0
      · have : Nat.beq new.length 0 = true := by rw [hn0]; rfl
        rw [this] at hev
        cases hev
        have hvs0 : vs = [] := List.length_eq_zero_iff.1 (by rw [← hvs.length, flat_length new hnr, hn0]; simp)
        have hn00 : n = 0 := by omega
        subst hn00
        refine turns_val (runval (run_append_in (P := P) (w := w) t0 t1 (by rw [a0, ex]) a1 up uxp hn hi (hlen w) e1 (by rw [hisz]; exact hfc w rfl) (w' := w) (by rw [hvs0]; cases base <;> simp [storeCells]))) ?_ (Mu.le_refl _) hH (Ext.refl _ _) (Kp.refl _ _)
        rw [e, ex] at hxv
        exact hxv
      · have : Nat.beq new.length 0 = false := Bool.eq_false_iff.2 fun hh => hn0 (Nat.eq_of_beq_eq_true hh)
        rw [this] at hev
        replace hev := cnd_inv (show cnd _ _ none = some _ from hev)
        obtain ⟨hzz, hev⟩ := hev
        obtain rfl := Nat.eq_of_beq_eq_true hzz
        replace hev := cnd_inv hev
        obtain ⟨h0, hev⟩ := hev
        obtain ⟨rfl, rfl, h0⟩ := at0_sound h0
        -- the list itself
        replace hev := asLst_some hev
        obtain ⟨ro, gen, zz, q'', sfx, ho, hev⟩ := hev
        replace hev := cnd_inv' hev
        obtain ⟨rfl, hev⟩ := hev
        replace hev := cnd_inv hev
        obtain ⟨hzz, hev⟩ := hev
        obtain rfl := Nat.eq_of_beq_eq_true hzz
        replace hev := cnd_inv hev
        obtain ⟨hqq, hev⟩ := hev
        obtain rfl := Key.beq_eq hqq
        replace hev := cnd_inv hev
        obtain ⟨hgg, hev⟩ := hev
        obtain rfl := Nat.eq_of_beq_eq_true hgg
        replace hev := cnd_inv hev
        obtain ⟨hdd, hev⟩ := hev
        rw [ieq_eq] at hdd
        have hdd := of_decide_eq_true hdd
        replace hev := cnd_inv hev
        obtain ⟨hgl, hev⟩ := hev
        have hgl : g + 1 < strGen := Nat.le_of_ble_eq_true hgl
        obtain ⟨p, hp, hev⟩ := opt_inv hev
        obtain ⟨hbd, hev⟩ := cnd_inv hev
        obtain ⟨hb1, hev⟩ := cnd_inv hev
        obtain ⟨hsc, hev⟩ := cnd_inv hev
        cases hev
        have hp := relOf_sound hH.fk hp
        rw [ile_eq] at hbd hb1
        have hbd := of_decide_eq_true hbd
        have hb1 := of_decide_eq_true hb1
        simp only [iadd_eq] at hbd hb1 ⊢
        rw [nz_kZ] at hp
        obtain ⟨⟨⟨k0, k1⟩, k2⟩, ⟨k3, k4⟩, k5⟩ := hH.lst ho
        simp only [Int.ofNat_eq_natCast] at hdd hbd ⊢
        have hlenE : len = (Val.l q').length + sfx.length := by omega
        have hle : len + n ≤ 1000000 := by omega
        have hvl : vs.length = n * (k + 1) := by rw [← hvs.length, flat_length new hnr, hnl]
        have vrNew : ∀ {ν : Mu} {bb nn cc : Nat} {ss : Nat}, ν f (g + 1) = some (bb, ss, nn) → len + n ≤ cc → ss + cc * (k + 1) ≤ nn →
            VR ν (.nsl f (g + 1) (k + 1) kZ 0 q' (d' + (new.length : Int)) (d' + (new.length : Int))) (.slice (some ⟨bb, ss, none⟩) (len + n) cc) := by
          intro ν bb nn cc ss j1 j2 j3
          simp only [VR]
          refine ⟨_, _, _, rfl, j2, by omega, by omega, .inr ⟨bb, ss, nn, 0, j1, by omega, by simp, by simpa using j3⟩⟩
        -- what is there
        have old : ∃ os : List Value, os.length = len * (k + 1) ∧ (∀ w', w'.heap = w.heap → (Builtin.firstCells i.size len (.slice base len cp)).run P w' = .ok os.toArray w') ∧ Cont μ (fun j => os[j]?) (k + 1) (Val.l q') sfx ∧
            (cp = 0 ∨ ∃ b s nn cs ce, μ f g = some (b, s, nn) ∧ base = some ⟨b, s, none⟩ ∧ s + cp * (k + 1) ≤ nn ∧ w.heap[b]? = some (.cells cs ce (0, 0)) ∧ cs.size = nn ∧ B ≤ b) := by
          rcases e4 with e4 | ⟨b, s, nn, r, hm, hr, hb, hl⟩
          · have hz0 : len = 0 := by omega
            have hl0 : (Val.l q').length = 0 := by omega
            have hs0 : sfx.length = 0 := by omega
            refine ⟨[], by rw [hz0]; simp, fun w' _ => ?_, ?_, .inl e4⟩
            · rw [hz0]
              cases base with
              | none => rfl
              | some ad => show (loadCells ad (0 * i.size)).run P w' = _; rw [Nat.zero_mul]; rfl
            · have a1 := List.length_eq_zero_iff.1 hl0
              have a2 := List.length_eq_zero_iff.1 hs0
              rw [a1, a2]
              exact ⟨fun r row hh => by simp at hh, fun r row hh => by simp at hh⟩
          · have hr0 : r = 0 := by omega
            subst hr0
            obtain ⟨⟨hBb, _⟩, cs, ce, fz, hheap, hfz, hcs, hl1, hl2⟩ := k5 g b s nn hm
            have hfz := hfz rfl
            subst hfz
            have hsz' : s + len * (k + 1) ≤ cs.size := by
              have := Nat.mul_le_mul_right (k + 1) e1
              rw [hcs]
              rw [Nat.zero_add] at hl
              omega
            have hget : ∀ j, j < len * (k + 1) → ((cs.toList.drop s).take (len * (k + 1)))[j]? = cs[s + j]? := by
              intro j hj
              rw [List.getElem?_take, if_pos hj, List.getElem?_drop, Array.getElem?_toList]
            refine ⟨(cs.toList.drop s).take (len * (k + 1)), by simp; omega, fun w' hw' => ?_, ?_, .inr ⟨b, s, nn, cs, ce, hm, by rw [hb]; simp, by rw [Nat.zero_add] at hl; exact hl, hheap, hcs, hBb rfl⟩⟩
            · rw [hb]
              show (loadCells ⟨b, s + 0 * (k + 1), none⟩ (len * i.size)).run P w' = _
              rw [hisz]
              have hll : ((cs.toList.drop s).take (len * (k + 1))).length = len * (k + 1) := by simp; omega
              have := run_load_block (P := P) (w := w') (b := b) (x := s + 0 * (k + 1)) (vs := (cs.toList.drop s).take (len * (k + 1))) (by rw [hw']; exact hheap) (fun j v hj => by
                have hjl := (List.getElem?_eq_some_iff.1 hj).1
                rw [hll] at hjl
                rw [hget j hjl] at hj
                rw [← hj]; congr 1; omega)
              rw [hll] at this
              exact this
            · have ct := Cont.of hl1 (hl2 rfl)
              exact ct.congr k1 k2 (Nat.le_of_eq hlenE.symm) (fun j hj => hget j hj)
        obtain ⟨os, o1, o2, o3, o4⟩ := old
        by_cases hcap : len + n ≤ cp
        · rcases o4 with o4 | ⟨b, s, nn, cs, ce, hm, hb, hl, hheap, hcs, hBb⟩
          · omega
          · have hroom : s + len * (k + 1) + vs.length ≤ cs.size := by
              have := Nat.mul_le_mul_right (k + 1) hcap
              rw [Nat.add_mul] at this
              rw [hcs, hvl]; omega
            have hrun := run_append_in (P := P) (w := w) (ty := ty) t0 t1 (by rw [a0, ex]) a1 up uxp hn hi (hlen w) hcap (by rw [hisz]; exact hfc w rfl) (w' := World.put w b (.cells (spliceA cs (s + len * (k + 1)) vs) ce (0, 0))) (by
              rw [hb]
              show (storeCells ((⟨b, s, none⟩ : Addr).add (len * i.size)) vs).run P w = _
              rw [add_zero_spot, hisz]
              exact run_storeCells' (g := 0) vs 0 (s + len * (k + 1)) cs w hheap (.inl rfl) (by omega) (rowsScalar_of hsc hvs))
            rw [hlenE] at hroom hrun
            obtain ⟨r1, r2⟩ := HR.lstIn hH ho hm hheap hgl hnr hvs hroom
            refine turns_val (runval hrun) ?_ r2 r1 (Ext.put hBb) (Kp.setIns rfl hm)
            rw [hb, ← hlenE]
            refine vrNew (Mu.ins_same _ _ _ _) hcap (by omega)
        · obtain ⟨cp', hcp, hrun⟩ := run_append_new (P := P) (w := w) (ty := ty) (ats := ats) (args := xs.map ρ) (base := base) (sLen := len) (sCap := cp) (n := n) (y := ρ y) (os := os.toArray) (vs := vs.toArray) t0 t1 (by rw [a0, ex]) a1 up uxp hn hi hiz (hlen w) (by omega) hle hiby
            (by rw [hisz]; exact hfc w.drew rfl) (o2 w.drew rfl)
          have hcsz : (os.toArray ++ vs.toArray ++ Builtin.zeroCells zv.cells (cp' - (len + n))).size = cp' * (k + 1) := by
            simp only [Array.size_append, List.size_toArray, Builtin.zeroCells, Array.size_map, Array.size_range, hzs, hvl, o1]
            rw [← Nat.add_mul, ← Nat.add_mul]; congr 1; omega
          have hget : ∀ j, j < os.length + vs.length → (os.toArray ++ vs.toArray ++ Builtin.zeroCells zv.cells (cp' - (len + n)))[0 + j]? = (os ++ vs)[j]? := by
            intro j hj
            rw [Nat.zero_add, Array.getElem?_append_left (by simpa using hj), List.append_toArray, List.getElem?_toArray]
          have ct : Cont μ (fun j => (os.toArray ++ vs.toArray ++ Builtin.zeroCells zv.cells (cp' - (len + n)))[0 + j]?) (k + 1) (Val.l q') (sfx ++ new) := by
            refine (o3.congr k1 k2 (Nat.le_of_eq hlenE.symm) (fun j hj => ?_)).more hnr hvs (fun j v hj => ?_)
            · show (os.toArray ++ vs.toArray ++ Builtin.zeroCells zv.cells (cp' - (len + n)))[0 + j]? = os[j]?
              rw [hget j (by omega), List.getElem?_append_left (by omega)]
            · have hjl := (List.getElem?_eq_some_iff.1 hj).1
              show (os.toArray ++ vs.toArray ++ Builtin.zeroCells zv.cells (cp' - (len + n)))[0 + (((Val.l q').length + sfx.length) * (k + 1) + j)]? = some v
              rw [← hlenE, ← o1, hget _ (by omega), List.getElem?_append_right (by omega), ← hj]
              congr 1; omega
          obtain ⟨r1, r2⟩ := HR.lstNew (hH.world (w' := w.drew) rfl) hB ho (w' := w.drew.alloc (.cells (os.toArray ++ vs.toArray ++ Builtin.zeroCells zv.cells (cp' - (len + n))) el)) rfl hgl hnr ct
          obtain ⟨x0, hm0⟩ : ∃ x, μ f g = some x := by
            rcases o4 with o4 | ⟨b, s, nn, cs, ce, hm, _⟩
            · omega
            · exact ⟨_, hm⟩
          refine turns_val (runval hrun) ?_ r2 r1 extNew (Kp.setIns rfl hm0)
          exact vrNew (Mu.ins_same _ _ _ _) hcp (by rw [hcsz]; omega)
    · exact e_appendT hE hH hB hq hx ht hu hxt hn hsz hz hz1 hby (n := new.length) (by rw [hnl]; exact hlen) rfl hnr hvs (by rw [hnl]; exact hfc) hev
  | none =>
    rw [hry] at hev
    rw [opt_none] at hev
    rcases asNsl_some hev with ⟨f, g, sz', kk, c, q', d', m, e, hev⟩ | ⟨_, hev⟩
    · replace hev := cnd_inv hev
      obtain ⟨hem, hev⟩ := hev
      replace hev := cnd_inv hev
      obtain ⟨hzz, hev⟩ := hev
      obtain rfl := Nat.eq_of_beq_eq_true hzz
      replace hev := cnd_inv hev
      obtain ⟨h0, hev⟩ := hev
      obtain ⟨rfl, rfl, h0⟩ := at0_sound h0
      replace hev := cnd_inv hev
      obtain ⟨h1, hev⟩ := hev
      rw [ieq_eq] at h1
      obtain rfl := of_decide_eq_true h1
      replace hev := asLst_some hev
      obtain ⟨ro, gen, zz, q'', sfx, ho, hev⟩ := hev
      replace hev := cnd_inv hev
      obtain ⟨hzz, hev⟩ := hev
      obtain rfl := Nat.eq_of_beq_eq_true hzz
      replace hev := cnd_inv hev
      obtain ⟨hqq, hev⟩ := hev
      obtain rfl := Key.beq_eq hqq
      obtain ⟨p, hp, hev⟩ := opt_inv hev
      obtain ⟨hbd, hev⟩ := cnd_inv hev
      obtain ⟨hbd2, hev⟩ := cnd_inv hev
      obtain ⟨hfree, hev⟩ := fresh_inv hev
      cases hev
      have hp := relOf_sound hH.fk hp
      rw [nz_kZ] at hp
      rw [ile_eq] at hbd hbd2
      have hbd := of_decide_eq_true hbd
      have hbd2 := of_decide_eq_true hbd2
      obtain ⟨⟨⟨k0, k1⟩, k2⟩, _, k5⟩ := hH.lst ho
      obtain ⟨base, len, cp, ey, e1, e2, e3, e4⟩ := q_nsl hq e
      obtain ⟨bx, ex⟩ := isEmptyS_sound (hq x) hem
      have hlenE : len = (Val.l q').length := by omega
      rcases e4 with e4 | ⟨b, s, nn, r, hm, hr, hb, hl⟩
      · omega
      · have hr0 : r = 0 := by omega
        subst hr0
        obtain ⟨_, cs, ce, fz, hheap, hfz, hcs, hl1, hl2⟩ := k5 g b s nn hm
        have hsz' : s + len * (k + 1) ≤ cs.size := by
          have := Nat.mul_le_mul_right (k + 1) e1
          rw [hcs]
          rw [Nat.zero_add] at hl
          omega
        have hget : ∀ j, j < len * (k + 1) → ((cs.toList.drop s).take (len * (k + 1)))[j]? = cs[s + j]? := by
          intro j hj
          rw [List.getElem?_take, if_pos hj, List.getElem?_drop, Array.getElem?_toList]
        have hll : ((cs.toList.drop s).take (len * (k + 1))).length = len * (k + 1) := by simp; omega
        have hfc : ∀ w', w'.heap = w.heap → (Builtin.firstCells i.size len (ρ y)).run P w' = .ok ((cs.toList.drop s).take (len * (k + 1))).toArray w' := by
          intro w' hw'
          rw [ey, hb]
          show (loadCells ⟨b, s + 0 * (k + 1), none⟩ (len * i.size)).run P w' = _
          rw [hisz]
          have := run_load_block (P := P) (w := w') (b := b) (x := s + 0 * (k + 1)) (vs := (cs.toList.drop s).take (len * (k + 1))) (by rw [hw']; exact hheap) (fun j v hj => by
            have hjl := (List.getElem?_eq_some_iff.1 hj).1
            rw [hll] at hjl
            rw [hget j hjl] at hj
            rw [← hj]; congr 1; omega)
          rw [hll] at this
          exact this
        obtain ⟨cp', hcp, hrun⟩ := run_append_new (P := P) (w := w) (ty := ty) (ats := ats) (args := xs.map ρ) (base := bx) (sLen := 0) (sCap := 0) (n := len) (y := ρ y) (os := #[]) (vs := ((cs.toList.drop s).take (len * (k + 1))).toArray) t0 t1 (by rw [a0, ex]) a1 up uxp hn hi hiz
          (by rw [ey]; simp [Builtin.lenOf]) (by omega) (by omega) hiby (hfc w.drew rfl) (by
            cases bx with
            | none => rfl
            | some ad => show (loadCells ad (0 * i.size)).run P w.drew = _; rw [Nat.zero_mul]; rfl)
        have hcsz : (#[] ++ ((cs.toList.drop s).take (len * (k + 1))).toArray ++ Builtin.zeroCells zv.cells (cp' - (0 + len)) : Array Value).size = cp' * (k + 1) := by
          simp only [Array.size_append, List.size_toArray, Builtin.zeroCells, Array.size_map, Array.size_range, hzs, hll, List.size_toArray, List.length_nil]
          simp only [Array.size_empty, Nat.zero_add] 
          rw [← Nat.add_mul]; congr 1; omega
        have hat : LstAt (#[] ++ ((cs.toList.drop s).take (len * (k + 1))).toArray ++ Builtin.zeroCells zv.cells (cp' - (0 + len)) : Array Value) 0 (k + 1) (Val.l q') := by
          intro r row hr j v hj
          have a1 := (List.getElem?_eq_some_iff.1 hr).1
          have a2 := (List.getElem?_eq_some_iff.1 hj).1
          rw [k1 row (List.mem_of_getElem? hr)] at a2
          have hlt : r * (k + 1) + j < len * (k + 1) := by rw [hlenE]; exact row_lt a1 a2
          rw [Array.empty_append, Array.getElem?_append_left (by rw [List.size_toArray, hll]; omega), List.getElem?_toArray, show 0 + r * (k + 1) + j = r * (k + 1) + j by omega, hget _ hlt]
          have := hl1 r row hr j v hj
          rwa [Nat.add_assoc] at this
        obtain ⟨r1, r2⟩ := HR.lstFresh (hH.world (w' := w.drew) rfl) hB hfree k0 k1 (w' := w.drew.alloc (.cells (#[] ++ ((cs.toList.drop s).take (len * (k + 1))).toArray ++ Builtin.zeroCells zv.cells (cp' - (0 + len))) el)) rfl hat
        refine turns_val (runval hrun) ?_ r2 r1 extNew (Kp.new hfree)
        simp only [VR]
        refine ⟨_, _, _, rfl, hcp, by omega, by omega, .inr ⟨_, 0, _, 0, Mu.ins_same _ _ _ _, by omega, by rw [Nat.zero_mul]; rfl, ?_⟩⟩
        rw [hcsz, Nat.zero_add, Nat.zero_add]; exact Nat.le_refl _
    · cases hev
theorem cntN_sound (hF : FkOk) {m n : Nat} {k : Key} {c : Int} {q' : Key} {d' : Int} {len : Nat} (hl : nz q' + d' = nz k + c + len) (h : cntN m k c q' d' = some n) : n = Nat.min len m := by
  unfold cntN at h
  cases h1 : leX k (iadd c (.ofNat m)) q' d' with
  | true =>
    rw [h1] at h
    cases h
    have := leX_sound hF h1
    rw [iadd_eq] at this
    simp only [Int.ofNat_eq_natCast] at this
    exact (Nat.min_eq_right (by omega)).symm
  | false =>
    rw [h1] at h
    obtain ⟨x, hd, h⟩ := opt_inv (show opt (disX k c q' d') none _ = some n from h)
    rw [icase_eq] at h
    have := disX_sound hF hd
    cases x with
    | negSucc x => cases h
    | ofNat x =>
      obtain ⟨h2, h⟩ := cnd_inv h
      cases h
      have := Nat.le_of_ble_eq_true h2
      simp only [Int.ofNat_eq_natCast] at *
      have e1 : len = n := by omega
      rw [e1]
      exact (Nat.min_eq_left (by omega)).symm
include hE hH hq in
theorem e_copyX {xs : Array Operand} {ats : Array TypeId} {st el : TypeId} {ts : List TypeId} {x y : Operand} {l : List Operand} {k : Nat} (hx : xs.toList = x :: y :: l) (ht : ats.toList = st :: ts)
    (hu : E.und st = some (.slice el)) (hsz : E.size el = some (k + 1)) (hev : xCopyX (k + 1) (q x) (q y) h nx L = some (Tn.mk a h' nx')) :
    Turns P ρ B μ h w ⟨d, .call { callee := .builtin .copy, args := xs, argTypes := ats }, ty, pos, af, gd⟩ a h' := by
  rcases asNsl_some hev with ⟨f, g, sz', kk, c, q', d', m0, e, hev⟩ | ⟨_, hev⟩
  · replace hev := cnd_inv hev
    obtain ⟨hzz, hev⟩ := hev
    obtain rfl := Nat.eq_of_beq_eq_true hzz
    obtain ⟨m, hm1, hev⟩ := opt_inv (show opt (lenS (getO (q x) L)) none _ = some _ from hev)
    obtain ⟨n, hc, hev⟩ := opt_inv hev
    obtain ⟨rows, hr, hev⟩ := opt_inv hev
    obtain ⟨base, len, cp, ey, e1, e2, e3, e4⟩ := q_nsl hq e
    have hy := hq y
    rw [e] at hy
    have hn := cntN_sound hH.fk e2 hc
    subst hn
    obtain ⟨r1, r2, vs, r3, r4⟩ := nsl_first (P := P) hH hy (by have := Nat.min_le_left len m; rw [e2]; have : Nat.min len m ≤ len := this; omega) hr
    exact e_copyT hE hH hq hx ht hu hsz hm1 (n := len) (fun w' => by rw [ey]; simp [Builtin.lenOf]) r1 r2 r3 r4 hev
  · exact e_copy hE hH hq hx ht hu hsz hev
end
end Go.Ev

namespace Go.Ev
set_option linter.unusedVariables false
set_option linter.unusedSectionVars false
set_option linter.unusedSimpArgs false
variable [Val] [Fk]
theorem clone_next : Extern.allNextRows.lookup "maps.clone" = none := by kernel_rfl
theorem clone_next0 : Extern.allNextRows.lookup "" = none := by kernel_rfl
theorem clone_typed : Extern.allTypedRows.lookup "maps.clone" = none := by kernel_rfl
theorem clone_gen : Extern.allGenericRows.lookup "maps.clone" = none := by kernel_rfl
theorem clone_is : Extern.allRows.lookup "maps.clone" = some Extern.MapsClone.clone := by kernel_rfl
section
variable {E : Env} {P : Program} (hE : EnvOk E P) {B : Nat} {μ : Mu} {h : Hp} {w : World} (hH : HR B μ h w) {nx : Key} (hB : B ≤ w.heap.size)
  {L : Lo} {ρ : Operand → Value} {q : Operand → Opd} (hq : ∀ x, VR μ (getO (q x) L) (ρ x)) (hF : ∀ f, ρ (.func f) = .func (.func f) #[] #[])
variable {d : Option Tmp} {ty : TypeId} {pos : String} {af : Array Edge} {gd : Option (Nat × Bool)} {a : AV} {h' : Hp} {nx' : Key}
include hE hF in
theorem run_extern_clone {f : Operand} {xs : Array Operand} {ats : Array TypeId} (hc : isClone E f = true) :
    ∀ w, (execOp ρ ⟨d, .call { callee := .value f, args := xs, argTypes := ats }, ty, pos, af, gd⟩).run P w = (do pure (Next.value (← Extern.MapsClone.clone (xs.map ρ))) : Sem Next).run P w := by
  intro w
  unfold isClone at hc
  split at hc
  · rename_i g
    split at hc
    · rename_i fn hfn
      simp only [Bool.and_eq_true, Option.isNone_iff_eq_none, decide_eq_true_eq, Bool.or_eq_true] at hc
      obtain ⟨⟨hb, hn⟩, ho⟩ := hc
      have hf := hE.fs _ _ hfn
      have h1 : Extern.findNext fn = none := by
        unfold Extern.findNext
        simp only [hn, clone_next, Option.map_none]
        rcases ho with ho | ho <;> simp [ho, clone_next, clone_next0]
      have h2 : Extern.find fn = some Extern.MapsClone.clone := by
        unfold Extern.find
        simp only [hn, clone_typed, clone_gen, clone_is, Option.map_none]
        rfl
      show (do let d ← resolve ρ { callee := .value (.func g), args := xs, argTypes := ats } ty; invoke d.target d.args).run P w = _
      have hr : resolve ρ { callee := .value (.func g), args := xs, argTypes := ats } ty = pure { target := .fn (.func g) #[], args := xs.map ρ } := by
        simp only [resolve, hF, Deferred.ofValue]
        simp
      rw [hr]
      simp only [Sem.run_bind, Sem.run_pure, Result.andThen_ok, invoke, callFunc, run_program, hf]
      have hnm : (fn.name == "runtime.NumGoroutine") = false := by rw [hn]; decide
      simp only [hnm, Bool.false_eq_true, if_false, hb, Option.isNone_none, if_true, Sem.run_bind, run_mark, Result.andThen_ok, h1, h2, Array.append_empty, Sem.run_pure]
    · cases hc
  · cases hc
include hE hH hB hq hF in
theorem e_clone {f : Operand} {xs : Array Operand} {ats : Array TypeId} {x : Operand} (hx : xs.toList = [x]) (hc : isClone E f = true) (hev : xClone (q x) h nx L = some (Tn.mk a h' nx')) :
    Turns P ρ B μ h w ⟨d, .call { callee := .value f, args := xs, argTypes := ats }, ty, pos, af, gd⟩ a h' := by
  obtain ⟨t, v, e1, hev⟩ := asIface_some hev
  obtain ⟨m, e2, hev⟩ := asMap_some hev
  obtain ⟨es, clock, ho, hev⟩ := asMapO_some hev
  obtain ⟨hfree, hev⟩ := fresh_inv hev
  cases hev
  obtain ⟨y, hxx, hv⟩ := q_iface hq e1
  rw [e2] at hv
  simp only [VR] at hv
  obtain ⟨b, s, n, hm, rfl⟩ := hv
  obtain ⟨hBb, xs', hxs, hR⟩ := hH.mapOb ho hm
  have hargs : xs.map ρ = #[.iface t (.map (some b))] := by
    have : xs = #[x] := by apply Array.toList_inj.1; rw [hx]
    subst this; simp [hxx]
  have hrun : (execOp ρ ⟨d, .call { callee := .value f, args := xs, argTypes := ats }, ty, pos, af, gd⟩).run P w = .ok (.value (.iface t (.map (some w.heap.size)))) (w.alloc (.map xs' clock)) := by
    rw [run_extern_clone hE hF hc, hargs]
    refine run_val ?_
    have e3 : Extern.MapsClone.clone #[.iface t (.map (some b))] = (do
        let .map entries clock ← getObj b | stuck "maps.clone: a map expected"
        pure (.iface t (.map (some (← newObj (.map entries clock))))) : Sem Value) := rfl
    rw [e3]
    simp only [Sem.run_bind, MapKept.run_getObj_map hxs, Result.andThen_ok, run_newObj_alloc, Sem.run_pure]
  have hno := hH.noneAt hfree
  obtain ⟨r1, r2⟩ := hH.alloc (gen := 0) (n := 0) hfree (w' := w.alloc (.map xs' clock)) rfl (ob := .map es clock) ⟨fun g hg => by rw [Mu.ins_other _ (.inr (by omega))]; exact hno g, fun b1 s1 n1 hm1 => by
    rcases Mu.ins_inv hm1 with ⟨_, _, e3⟩ | k1
    · cases e3
      exact ⟨hB, xs', heap_new, hR.mono (Mu.ins_le (hno 0) _)⟩
    · rw [hno 0] at k1; cases k1⟩
  refine turns_val hrun ?_ r2 r1 ⟨rfl, rfl, rfl, by show w.heap.size ≤ (w.heap.push _).size; simp, fun kk hkk => by show (w.heap.push _)[kk]? = _; rw [Array.getElem?_push, if_neg (by omega)]⟩ (Kp.new hfree)
  simp only [VR]
  exact ⟨_, rfl, _, _, _, Mu.ins_same _ _ _ _, rfl⟩
include hH in
theorem HR.freeze {f : Key} {g gen sz dp ext b s n : Nat} {c : Tr Row} (ho : hget f h = .cells false gen sz dp ext c) (hm : μ f g = some (b, s, n)) (hg : strGen ≤ g) {cs : Array Value} {e : TypeId} {fz : Nat × Nat} (hheap : w.heap[b]? = some (.cells cs e fz))
    {w' : World} (hw : w'.heap = w.heap.setIfInBounds b (.cells cs e (cs.size, cs.size + 1))) : HR B μ h w' := by
  have hbl := hH.lt _ _ _ _ _ hm
  have hBb : B ≤ b := ((hH.cells ho).2.2 g b s n hm).1 rfl
  refine ⟨hH.inj, fun f1 g1 b1 s1 m1 h1 => by rw [hw, Array.size_setIfInBounds]; exact hH.lt _ _ _ _ _ h1, fun f1 => ?_, hH.side, hH.fk, hH.start⟩
  by_cases hff : f = f1
  · subst hff
    obtain ⟨hwf, hgen, hblk⟩ := hH.cells ho
    rw [ho]
    refine ⟨hwf, hgen, fun g1 b1 s1 n1 hm1 => ?_⟩
    obtain ⟨a1, a2, cs1, e1, fz1, a3, a4, a5, a6⟩ := hblk g1 b1 s1 n1 hm1
    by_cases hb : b1 = b
    · subst hb
      rw [hheap] at a3
      simp only [Option.some.injEq, Obj.cells.injEq] at a3
      obtain ⟨rfl, rfl, rfl⟩ := a3
      refine ⟨a1, a2, cs, e, _, by rw [hw, Array.getElem?_setIfInBounds_self]; simp [hbl], .inr ⟨hH.side _ _ _ _ _ _ _ _ hm hm1 hg, rfl⟩, a5, a6⟩
    · exact ⟨a1, a2, cs1, e1, fz1, by rw [hw, Array.getElem?_setIfInBounds_ne (Ne.symm hb)]; exact a3, a4, a5, a6⟩
  · refine OR.mono (Mu.le_refl μ) (fun _ => rfl) (fun g1 b1 s1 m1 hm1 => ?_) (hH.obj f1)
    have hne : b ≠ b1 := fun hb => by subst hb; exact hff (hH.inj _ _ _ _ _ _ _ _ _ hm hm1 (.inr hBb)).1
    rw [hw, Array.getElem?_setIfInBounds_ne hne]
include hE hH hq in
theorem e_mark {s t : TypeId} {x : Operand} (hc : convM E s t = true) (hev : xMark (q x) h nx L = some (Tn.mk a h' nx')) :
    Turns P ρ B μ h w ⟨d, .convert s t x, ty, pos, af, gd⟩ a h' := by
  unfold convM at hc
  rw [Bool.and_eq_true] at hc
  obtain ⟨hst, hc⟩ := hc
  have hst := Nat.eq_of_beq_eq_true hst
  subst hst
  split at hc
  · rename_i el hu
    have he : E.und el = some (.int .u8) := by
      unfold isU8 at hc
      split at hc
      · assumption
      · cases hc
    obtain ⟨f, g, o, len, cap, sz, ex, hs, hev⟩ := asSlice_some hev
    obtain ⟨ro, gen, sz', dp, ext, c, ho, hev⟩ := asCells_some hev
    obtain ⟨hro, hev⟩ := cnd_inv' hev
    subst hro
    obtain ⟨hg, hev⟩ := cnd_inv hev
    obtain ⟨hgg, hev⟩ := cnd_inv hev
    cases hev
    have hg : strGen ≤ g := Nat.le_of_ble_eq_true hg
    have hx := hq x
    rw [hs] at hx
    have hx0 := hx
    simp only [VR] at hx
    obtain ⟨b, s0, n, xo, cp, hm, hxv, _⟩ := hx
    obtain ⟨hwf, hgen, hblk⟩ := hH.cells ho
    obtain ⟨hBb, _, cs, e, fz, hheap, hfz, hcsz, _⟩ := hblk g b s0 n hm
    have hbl := hH.lt _ _ _ _ _ hm
    have hw : (w.freeze ⟨b, cs.size, none⟩ 1).heap = w.heap.setIfInBounds b (.cells cs e (cs.size, cs.size + 1)) := by
      simp only [World.freeze, Nat.one_ne_zero, if_false]
      apply Array.ext_getElem?
      intro i
      rw [Array.getElem?_modify, Array.getElem?_setIfInBounds]
      by_cases hi : b = i
      · subst hi
        simp only [if_true, hheap, Option.map_some, hbl]
        obtain ⟨lo, hi⟩ := fz
        rcases hfz with h0 | ⟨_, h0⟩
        · cases h0; rfl
        · cases h0; simp
      · simp only [hi, if_false]
    have hrun : (execOp ρ ⟨d, .convert s s x, ty, pos, af, gd⟩).run P w = .ok (.value (ρ x)) (w.freeze ⟨b, cs.size, none⟩ 1) := by
      refine run_val (s := convert s s (ρ x)) ?_
      rw [hxv]
      simp only [convert, Sem.run_bind, hE.runUnd hu, hE.runUnd he, Result.andThen_ok, beq_self_eq_true, markStringish, run_shape]
      have hshape : w.shape? b = some (e, cs.size) := by unfold World.shape?; rw [hheap]
      simp only [hshape, Sem.run_bind, run_freeze, Result.andThen_ok, Sem.run_pure]
    exact turns_val hrun hx0 (Mu.le_refl _) (hH.freeze ho hm hg hheap hw) ⟨rfl, rfl, rfl, by rw [hw]; simp, fun k hk => by
      rw [hw, Array.getElem?_setIfInBounds_ne (by have := hBb rfl; omega)]⟩ (Kp.refl _ _)
  · cases hc
include hE hH hB hq hF in
theorem eff_sound {op : Op} (hev : (effI q E op).ev E h nx L = some (Tn.mk a h' nx')) : Turns P ρ B μ h w ⟨d, op, ty, pos, af, gd⟩ a h' := by
  unfold effI at hev
  split at hev
  · rename_i x
    obtain ⟨v, hv, hev⟩ := opt_inv (show opt (getO (q x) L).some none (fun v => some (Tn.mk v h nx)) = some (Tn.mk a h' nx') from hev)
    rw [AV.some_eq] at hv
    cases hv; cases hev
    exact turns_val (v := ρ x) rfl (hq x) (Mu.le_refl _) hH (Ext.refl _ _) (Kp.refl _ _)
  · rename_i s t x
    cases hc : convM E s t with
    | false => rw [hc] at hev; cases hev
    | true => rw [hc] at hev; exact e_mark hE hH hq hc hev
  · split at hev
    · rename_i n hn; exact e_store hE hH hq hn hev
    · cases hev
  · exact e_mapUp hE hH hq (ins := false) hev
  · exact e_mapUp hE hH hq (ins := true) hev
  · split at hev
    · rename_i kt el hu
      split at hev
      · rename_i z hz; exact e_mapEn hE hH hq hu hz hev
      · cases hev
    · cases hev
  · exact e_enStore hE hH hq hev
  · rename_i c
    obtain ⟨callee, args, ats⟩ := c
    simp only at hev
    split at hev
    · rename_i st xt ts x y l h2 h3
      split at hev
      · cases hev
      · rename_i el dx hn hu hxt
        split at hev
        · rename_i n z hsz hz
          cases hb : Nat.beq z.cells.length (n + 1) && Nat.ble (bytesO E el) 1000000 with
          | false => rw [hb] at hev; cases hev
          | true =>
            rw [hb] at hev
            simp only [Bool.and_eq_true] at hb
            exact e_appendX hE hH hB hq h3 h2 hu hxt (fun kk hk => by subst hk; exact hn _ rfl) hsz hz hb.1 hb.2 hev
        · cases hev
      · cases hev
    · rename_i st ts x y l h2 h3
      split at hev
      · rename_i el hu
        split at hev
        · rename_i n hn; exact e_copyX hE hH hq h3 h2 hu hn hev
        · cases hev
      · cases hev
    · rename_i t ts m k l h2 h3
      exact e_delete hE hH hq h3 h2 hev
    · rename_i t ts x l h2 h3
      split at hev
      · rename_i kt el hu; exact e_clearM hE hH hq h3 h2 hu hev
      · rename_i el hu
        split at hev
        · rename_i z hz; exact e_clearS hE hH hq h3 h2 hu hz hev
        · cases hev
      · cases hev
    · rename_i f x h3
      cases hc : isClone E f with
      | false => rw [hc] at hev; cases hev
      | true => rw [hc] at hev; exact e_clone hE hH hB hq hF h3 hc hev
    · cases hev
  · cases hev
end
end Go.Ev

namespace Go.Ev
set_option linter.unusedVariables false
set_option linter.unusedSectionVars false
set_option linter.unusedSimpArgs false
variable [Val] [Fk]
/-! ## steps of the machine, of frames of any kind -/
def Frame.to (fr : Frame) (k : List Item) : Frame := { fr with todo := k }
abbrev gor (fr : Frame) (cs : List Frame) : Goroutine := { frame := fr, callers := cs, status := .running, dying := none }
section
variable {P : Program} {fr : Frame} {cs : List Frame} {w : World} {k : List Item}
theorem s_skip (hm : fr.mode = .run) (ht : fr.todo = .code .skip :: k) : Go.step P (lone fr cs w) = Stepped.next (lone (Frame.to fr k) cs w) := by
  obtain ⟨fn, tmps, todo, ds, md, kd, rnd⟩ := fr; simp only at hm ht; subst hm ht
  exact step_lone_go (by simp [stepG, stepG.exec, Frame.to])
theorem s_label {l : Nat} (hm : fr.mode = .run) (ht : fr.todo = .code (.label l) :: k) : Go.step P (lone fr cs w) = Stepped.next (lone (Frame.to fr k) cs w) := by
  obtain ⟨fn, tmps, todo, ds, md, kd, rnd⟩ := fr; simp only at hm ht; subst hm ht
  exact step_lone_go (by simp [stepG, stepG.exec, Frame.to])
theorem s_inBlock {id : Nat} (hm : fr.mode = .run) (ht : fr.todo = .inBlock id :: k) : Go.step P (lone fr cs w) = Stepped.next (lone (Frame.to fr k) cs w) := by
  obtain ⟨fn, tmps, todo, ds, md, kd, rnd⟩ := fr; simp only at hm ht; subst hm ht
  exact step_lone_go (by simp [stepG, stepG.exec, Frame.to])
theorem s_inScope {c : Code} (hm : fr.mode = .run) (ht : fr.todo = .inScope c :: k) : Go.step P (lone fr cs w) = Stepped.next (lone (Frame.to fr k) cs w) := by
  obtain ⟨fn, tmps, todo, ds, md, kd, rnd⟩ := fr; simp only at hm ht; subst hm ht
  exact step_lone_go (by simp [stepG, stepG.exec, Frame.to])
theorem s_seq {x y : Code} (hm : fr.mode = .run) (ht : fr.todo = .code (.seq x y) :: k) : Go.step P (lone fr cs w) = Stepped.next (lone (Frame.to fr (.code x :: .code y :: k)) cs w) := by
  obtain ⟨fn, tmps, todo, ds, md, kd, rnd⟩ := fr; simp only at hm ht; subst hm ht
  exact step_lone_go (by simp [stepG, stepG.exec, Frame.to])
theorem s_cond {c : Operand} {x y : Code} {t : Bool} (hm : fr.mode = .run) (ht : fr.todo = .code (.cond c x y) :: k) (hc : fr.eval c = .bool t) :
    Go.step P (lone fr cs w) = Stepped.next (lone (Frame.to fr (.code (if t then x else y) :: k)) cs w) := by
  obtain ⟨fn, tmps, todo, ds, md, kd, rnd⟩ := fr; simp only at hm ht; subst hm ht
  exact step_lone_go (by simp [stepG, stepG.exec, Frame.to, hc])
theorem s_block {id : Nat} {c : Code} (hm : fr.mode = .run) (ht : fr.todo = .code (.block id c) :: k) : Go.step P (lone fr cs w) = Stepped.next (lone (Frame.to fr (.code c :: .inBlock id :: k)) cs w) := by
  obtain ⟨fn, tmps, todo, ds, md, kd, rnd⟩ := fr; simp only at hm ht; subst hm ht
  exact step_lone_go (by simp [stepG, stepG.exec, Frame.to])
theorem s_loop {c : Code} (hm : fr.mode = .run) (ht : fr.todo = .code (.loop c) :: k) : Go.step P (lone fr cs w) = Stepped.next (lone (Frame.to fr (.code c :: .inLoop c :: k)) cs w) := by
  obtain ⟨fn, tmps, todo, ds, md, kd, rnd⟩ := fr; simp only at hm ht; subst hm ht
  exact step_lone_go (by simp [stepG, stepG.exec, Frame.to])
theorem s_inLoop {c : Code} (hm : fr.mode = .run) (ht : fr.todo = .inLoop c :: k) : Go.step P (lone fr cs w) = Stepped.next (lone (Frame.to fr (.code c :: .inLoop c :: k)) cs w) := by
  obtain ⟨fn, tmps, todo, ds, md, kd, rnd⟩ := fr; simp only at hm ht; subst hm ht
  exact step_lone_go (by simp [stepG, stepG.exec, Frame.to])
theorem s_scope {c : Code} (hm : fr.mode = .run) (ht : fr.todo = .code (.scope c) :: k) : Go.step P (lone fr cs w) = Stepped.next (lone (Frame.to fr (.code c :: .inScope c :: k)) cs w) := by
  obtain ⟨fn, tmps, todo, ds, md, kd, rnd⟩ := fr; simp only at hm ht; subst hm ht
  exact step_lone_go (by simp [stepG, stepG.exec, Frame.to])
theorem s_exit {id : Nat} {k' : List Item} (hm : fr.mode = .run) (ht : fr.todo = .code (.exit id) :: k) (he : exitTo id k = some k') : Go.step P (lone fr cs w) = Stepped.next (lone (Frame.to fr k') cs w) := by
  obtain ⟨fn, tmps, todo, ds, md, kd, rnd⟩ := fr; simp only at hm ht; subst hm ht
  exact step_lone_go (by simp [stepG, stepG.exec, Frame.to, he])
theorem s_goto {l : Nat} {k' : List Item} (hm : fr.mode = .run) (ht : fr.todo = .code (.goto l) :: k) (he : gotoIn l k = some k') : Go.step P (lone fr cs w) = Stepped.next (lone (Frame.to fr k') cs w) := by
  obtain ⟨fn, tmps, todo, ds, md, kd, rnd⟩ := fr; simp only at hm ht; subst hm ht
  exact step_lone_go (by simp [stepG, stepG.exec, Frame.to, he])
theorem s_ret (hm : fr.mode = .run) (hr : fr.roundOf = none) (ht : fr.todo = [] ∨ fr.todo = .code .ret :: k) : Go.step P (lone fr cs w) = Stepped.next (lone { fr with mode := .returning } cs w) := by
  obtain ⟨fn, tmps, todo, ds, md, kd, rnd⟩ := fr; simp only at hm hr ht; subst hm hr
  rcases ht with ht | ht <;> subst ht <;> exact step_lone_go (by simp [stepG, stepG.exec])
theorem s_region {id : Nat} {ops : Array Oper} (hm : fr.mode = .run) (ht : fr.todo = .code (.region id ops false) :: k) :
    Go.step P (lone fr cs w) = Stepped.next (lone (Frame.to fr (.inRegion ops (List.range ops.size) :: k)) cs w) := by
  obtain ⟨fn, tmps, todo, ds, md, kd, rnd⟩ := fr; simp only at hm ht; subst hm ht
  exact step_lone_go (by simp [stepG, stepG.exec, Frame.to])
theorem s_regionDraw {id : Nat} {ops : Array Oper} (hm : fr.mode = .run) (ht : fr.todo = .code (.region id ops true) :: k) :
    ∃ t, Go.step P (lone fr cs w) = Stepped.next (lone (Frame.to fr (.inRegion ops (Region.schedule (P.follows .mixedOrders) ops t) :: k)) cs { w with drawn := w.drawn + 1 }) := by
  obtain ⟨fn, tmps, todo, ds, md, kd, rnd⟩ := fr; simp only at hm ht; subst hm ht
  exact ⟨w.tape w.drawn (.order fn id), step_lone_go (by simp [stepG, stepG.exec, choose, Sem.run, Question.forced, Question.cut, Frame.to])⟩
theorem s_regionEnd {ops : Array Oper} (hm : fr.mode = .run) (ht : fr.todo = .inRegion ops [] :: k) : Go.step P (lone fr cs w) = Stepped.next (lone (Frame.to fr k) cs w) := by
  obtain ⟨fn, tmps, todo, ds, md, kd, rnd⟩ := fr; simp only at hm ht; subst hm ht
  exact step_lone_go (by simp [stepG, stepG.exec, Frame.to])
variable {ops : Array Oper} {i : Nat} {is : List Nat} {o : Oper}
theorem s_opSkip (hm : fr.mode = .run) (ht : fr.todo = .inRegion ops (i :: is) :: k) (ho : ops[i]? = some o) (hw : Region.wanted o (yielded ops fr.tmps) = false) :
    Go.step P (lone fr cs w) = Stepped.next (lone (fr.finish undef) cs w) := by
  obtain ⟨fn, tmps, todo, ds, md, kd, rnd⟩ := fr; simp only at hm ht hw; subst hm ht
  exact step_lone_go (by simp [stepG, stepG.exec, ho, hw])
theorem stepG_oper (hm : fr.mode = .run) (ht : fr.todo = .inRegion ops (i :: is) :: k) (ho : ops[i]? = some o) (hw : Region.wanted o (yielded ops fr.tmps) = true)
    (hd : fr.roundOf = none ∨ ∀ c, o.op ≠ .defer c) : stepG P true (gor fr cs) w = stepG.apply P true fr cs none (execOp fr.eval o) w := by
  obtain ⟨fn, tmps, todo, ds, md, kd, rnd⟩ := fr; simp only at hm ht hw hd; subst hm ht
  simp only [gor, stepG, stepG.exec, ho, Option.map_some, hw, Option.getD_some, if_true, stepG.oper, Frame.oper?]
  rcases hd with rfl | hd
  · rfl
  · cases rnd with
    | none => rfl
    | some l =>
      obtain ⟨dst, op, ty, pos, af, gd⟩ := o
      simp only at hd
      cases op <;> first | rfl | exact absurd rfl (hd _)
theorem stepG_operRound {l : Nat} {c : Call} (hm : fr.mode = .run) (ht : fr.todo = .inRegion ops (i :: is) :: k) (ho : ops[i]? = some o) (hw : Region.wanted o (yielded ops fr.tmps) = true)
    (hr : fr.roundOf = some l) (hop : o.op = .defer c) : stepG P true (gor fr cs) w = stepG.apply P true fr cs none (do Instr.deferInRound l (← resolve fr.eval c o.type); pure .skip) w := by
  obtain ⟨fn, tmps, todo, ds, md, kd, rnd⟩ := fr; simp only at hm ht hw hr; subst hm ht hr
  obtain ⟨dst, op, ty, pos, af, gd⟩ := o
  simp only at hop; subst hop
  simp only [gor, stepG, stepG.exec, ho, Option.map_some, hw, Option.getD_some, if_true, stepG.oper, Frame.oper?]
theorem apply_value {s : Sem Next} {v : Value} {w' : World} (hr : s.run P w = .ok (.value v) w') : (stepG.apply P true fr cs none s w).bare = .go (gor (fr.finish v) cs) w' := by
  simp [stepG.apply, Sem.runT_eq, hr]
theorem apply_skip {s : Sem Next} {w' : World} (hr : s.run P w = .ok .skip w') : (stepG.apply P true fr cs none s w).bare = .go (gor (fr.finish undef) cs) w' := by
  simp [stepG.apply, Sem.runT_eq, hr]
theorem apply_defer {s : Sem Next} {d : Deferred} {w' : World} (hr : s.run P w = .ok (.defer d) w') : (stepG.apply P true fr cs none s w).bare = .go (gor ({ fr with defers := d :: fr.defers }.finish undef) cs) w' := by
  simp [stepG.apply, Sem.runT_eq, hr]
theorem apply_panic {s : Sem Next} {v : Value} {w' : World} (hr : s.run P w = .halt (.panic v) w') : (stepG.apply P true fr cs none s w).bare = .go (gor (fr.raise [{ v, recovered := false }]) cs) w' := by
  simp [stepG.apply, Sem.runT_eq, hr]
def plainTop (k : List Item) : Prop := ∀ d b r s k', k ≠ .call d b r s :: k'
theorem apply_enter {s : Sem Next} {f : FuncId} {args : Array Value} {w' : World} (hp : plainTop fr.todo) (hr : s.run P w = .ok (.enter f args) w') :
    (stepG.apply P true fr cs none s w).bare = .go (gor (Frame.enter P f args .normal) (fr :: cs)) w' := by
  obtain ⟨fn, tmps, todo, ds, md, kd, rnd⟩ := fr
  cases todo with
  | nil => simp [stepG.apply, Sem.runT_eq, hr]
  | cons x k => cases x <;> first | exact absurd rfl (hp _ _ _ _ _) | simp [stepG.apply, Sem.runT_eq, hr]
theorem apply_round {s : Sem Next} {l : Nat} {f : FuncId} {tmps : Array Value} {a b : Code} {w' : World} (hr : s.run P w = .ok (.round l f tmps a b) w') :
    (stepG.apply P true fr cs none s w).bare = .go (gor (Frame.round l f tmps a b .normal) (fr :: cs)) w' := by
  simp [stepG.apply, Sem.runT_eq, hr]
theorem apply_recover {s : Sem Next} {w' : World} (hn : fr.roundOf = none) (hr : s.run P w = .ok .recover w') :
    (stepG.apply P true fr cs none s w).bare = (match tryRecover fr cs with | some (v, cs') => .go (gor (fr.finish v) cs') w' | none => .go (gor (fr.finish .nilIface) cs) w') := by
  simp only [stepG.apply, Sem.runT_eq, hr, hn, GStep.bare_after, if_true]
  cases tryRecover fr cs with
  | none => rfl
  | some p => rfl
theorem next_of {g : Frame} {cs' : List Frame} {w' : World} (h : (stepG P true (gor fr cs) w).bare = .go (gor g cs') w') : Go.step P (lone fr cs w) = Stepped.next (lone g cs' w') := step_lone_go h
/-! rounds of a range over a function -/
theorem s_rangeFunc {f : Operand} {ps : Array Tmp} {a b : Code} {l : Nat} {mark : List Deferred} {w' : World} (hm : fr.mode = .run) (ht : fr.todo = .code (.rangeFunc f ps a b) :: k)
    (hr : (Instr.enterLoop fr.fn fr.tmps ps a b fr.roundOf).run P w = .ok (l, mark) w') :
    (stepG P true (gor fr cs) w).bare = (stepG.apply P true { fr with todo := .inRangeFunc l :: k, defers := mark ++ fr.defers } cs none
      (do let d ← resolve ({ fr with todo := .inRangeFunc l :: k, defers := mark ++ fr.defers } : Frame).eval { callee := .value f, args := #[.const (.func (.yield l) #[] #[])], argTypes := #[] } 0; invoke d.target d.args) w').bare := by
  obtain ⟨fn, tmps, todo, ds, md, kd, rnd⟩ := fr; simp only at hm ht hr; subst hm ht
  simp only [gor, stepG, stepG.exec, Sem.runT_eq, hr, GStep.bare_after]
theorem s_endRange {l : Nat} {jump : Option Code} {w' : World} (hm : fr.mode = .run) (ht : fr.todo = .endRangeFunc l :: k) (hr : (Instr.endLoop l).run P w = .ok jump w') :
    Go.step P (lone fr cs w) = Stepped.next (lone (Frame.to fr ((jump.map Item.code).toList ++ k)) cs w') := by
  obtain ⟨fn, tmps, todo, ds, md, kd, rnd⟩ := fr; simp only at hm ht; subst hm ht
  exact step_lone_go (by simp only [stepG, stepG.exec, Sem.runT_eq, hr, GStep.bare_after]; rfl)
theorem s_beginRound {l : Nat} {w' : World} (hm : fr.mode = .run) (hrd : fr.roundOf = some l) (ht : fr.todo = .beginRound :: k) (hr : (Instr.beginRound l).run P w = .ok () w') :
    Go.step P (lone fr cs w) = Stepped.next (lone (Frame.to fr k) cs w') := by
  obtain ⟨fn, tmps, todo, ds, md, kd, rnd⟩ := fr; simp only at hm ht hrd; subst hm ht hrd
  refine step_lone_go ?_
  have h1 : (do (some l).elim (stuck "beginRound: no round") Instr.beginRound; pure Next.skip : Sem Next).run P w = .ok .skip w' := by
    simp only [Option.elim_some, Sem.run_bind, hr, Result.andThen_ok, Sem.run_pure]
  have := apply_skip (P := P) (fr := { fn, tmps, todo := .beginRound :: k, defers := ds, mode := .run, kind := kd, roundOf := some l }) (cs := cs) h1
  simp only [stepG, stepG.exec]
  exact this
theorem s_leaveRound {l : Nat} {jump : Option Code} {v : Value} {w' : World} (hm : fr.mode = .run) (hrd : fr.roundOf = some l)
    (ht : (jump = none ∧ fr.todo = []) ∨ (jump = some .ret ∧ ∃ k, fr.todo = .code .ret :: k) ∨ (∃ id k, jump = some (.exit id) ∧ fr.todo = .code (.exit id) :: k ∧ exitTo id k = none) ∨
      (∃ l k, jump = some (.goto l) ∧ fr.todo = .code (.goto l) :: k ∧ gotoIn l k = none))
    (hr : (Instr.endRound l jump).run P w = .ok v w') : (stepG P true (gor fr cs) w).bare = (doReturn P true fr cs none v w').bare := by
  obtain ⟨fn, tmps, todo, ds, md, kd, rnd⟩ := fr; simp only at hm hrd ht; subst hm hrd
  rcases ht with ⟨rfl, rfl⟩ | ⟨rfl, k, rfl⟩ | ⟨id, k, rfl, rfl, he⟩ | ⟨l', k, rfl, rfl, he⟩
  · simp only [gor, stepG, stepG.exec, Sem.runT_eq, hr, GStep.bare_after]
  · simp only [gor, stepG, stepG.exec, Sem.runT_eq, hr, GStep.bare_after]
  · simp only [gor, stepG, stepG.exec, he, Option.elim_none, Sem.runT_eq, hr, GStep.bare_after]
  · simp only [gor, stepG, stepG.exec, he, Option.elim_none, Sem.runT_eq, hr, GStep.bare_after]
/-! the end of frames -/
theorem doReturn_normal {c : Frame} {v : Value} {w : World} (hk : fr.kind = .normal) : doReturn P true fr (c :: cs) none v w = .go (gor (c.finish v) cs) w := by
  simp [doReturn, hk]
theorem doReturn_caught {c : Frame} {v x : Value} {older : List PanicEntry} {w : World} {g : Bool} (hk : fr.kind = .deferred) (hc : c.mode = .panicking ({ v := x, recovered := true, goexit := g } :: older)) (ho : ∀ e ∈ older, e.goexit = false) :
    doReturn P true fr (c :: cs) none v w = .go (gor { c with mode := .returning } cs) w := by
  have hd : older.dropWhile (fun x => !x.goexit) = [] := by
    clear hc
    induction older with
    | nil => rfl
    | cons e l ih =>
      rw [List.dropWhile_cons, ho e (by simp)]
      exact ih (fun e he => ho e (by simp [he]))
  simp [doReturn, hk, hc, hd]
theorem doReturn_uncaught {c : Frame} {v : Value} {w : World} (hk : fr.kind = .deferred) (hc : ∀ x g older, c.mode ≠ .panicking ({ v := x, recovered := true, goexit := g } :: older)) :
    doReturn P true fr (c :: cs) none v w = .go (gor c cs) w := by
  obtain ⟨fn, tmps, todo, ds, md, kd, rnd⟩ := c
  simp only at hc
  cases md with
  | run => simp [doReturn, hk]
  | returning => simp [doReturn, hk]
  | panicking ch =>
    cases ch with
    | nil => simp [doReturn, hk]
    | cons e older =>
      obtain ⟨x, r, g⟩ := e
      cases r with
      | true => exact absurd rfl (hc _ _ _)
      | false => simp [doReturn, hk]
theorem u_results {fn : Func} {v : Value} (hm : fr.mode = .returning) (hd : fr.defers = []) (hf : P.funcs[fr.fn]? = some fn) (hr : (Go.results fn fr.tmps).run P w = .ok v w) :
    (stepG P true (gor fr cs) w).bare = (doReturn P true fr cs none v w).bare := by
  simp only [gor, stepG, hm, Go.unwind, hd, hf, Sem.runT_eq, hr, GStep.bare_after]
theorem u_raise {c : Frame} {chain : List PanicEntry} {fn : Func} (hm : fr.mode = .panicking chain) (hd : fr.defers = []) (hf : P.funcs[fr.fn]? = some fn) :
    Go.step P (lone fr (c :: cs) w) = Stepped.next (lone (c.raise chain) cs w) :=
  step_lone_go (by simp [stepG, Go.unwind, Frame.catches, hm, hd, hf])
theorem u_collected {r : Nat} {args : Array Value} {ds calls : List Deferred} {w' : World} (hm : fr.mode = .returning ∨ ∃ c, fr.mode = .panicking c) (hd : fr.defers = { target := .collected r, args := args } :: ds)
    (hr : (Instr.takeDeferred r).run P w = .ok calls w') : Go.step P (lone fr cs w) = Stepped.next (lone { fr with defers := calls ++ ds } cs w') := by
  refine step_lone_go ?_
  rcases hm with hm | ⟨c, hm⟩ <;> simp only [stepG, hm, Go.unwind, hd, Sem.runT_eq, hr, GStep.bare_after] <;> rfl
theorem u_defer {d : Deferred} {ds : List Deferred} (hm : fr.mode = .returning ∨ ∃ c, fr.mode = .panicking c) (hd : fr.defers = d :: ds) (hn : ∀ r, d.target ≠ .collected r) :
    stepG P true (gor fr cs) w = callDeferred P { fr with defers := ds } cs none d w := by
  have h1 : Go.unwind P true fr cs none w = callDeferred P { fr with defers := ds } cs none d w := by
    unfold Go.unwind
    rw [hd]
    obtain ⟨tg, args⟩ := d
    cases tg <;> first | rfl | exact absurd rfl (hn _)
  rcases hm with hm | ⟨c, hm⟩ <;> simp only [gor, stepG, hm, h1]
theorem callDeferred_enter {d : Deferred} {f : FuncId} {args : Array Value} {w' : World} (hn : d.target ≠ .nil) (hr : (invoke d.target d.args).run P w = .ok (.enter f args) w') :
    (callDeferred P fr cs none d w).bare = .go (gor (Frame.enter P f args .deferred) (fr :: cs)) w' := by
  have h1 : (d.target matches .nil) = false := by cases ht : d.target <;> first | rfl | exact absurd ht hn
  simp only [callDeferred, h1, Bool.false_and, Bool.false_eq_true, if_false, Sem.runT_eq, hr, GStep.bare_after]; rfl
theorem callDeferred_value {d : Deferred} {v : Value} {w' : World} (hn : d.target ≠ .nil) (hr : (invoke d.target d.args).run P w = .ok (.value v) w') :
    (callDeferred P fr cs none d w).bare = .go (gor fr cs) w' := by
  have h1 : (d.target matches .nil) = false := by cases ht : d.target <;> first | rfl | exact absurd ht hn
  simp only [callDeferred, h1, Bool.false_and, Bool.false_eq_true, if_false, Sem.runT_eq, hr, GStep.bare_after]; rfl
end
end Go.Ev

namespace Go.Ev
set_option linter.unusedVariables false
set_option linter.unusedSectionVars false
set_option linter.unusedSimpArgs false
noncomputable section
variable [Val] [Fk]
def evT (tmps : Array Value) : Operand → Value
  | .tmp t => tmps.getD t undef
  | .const v => v
  | .global g => .pointer (some ⟨g, 0, none⟩)
  | .func f => .func (.func f) #[] #[]
theorem eval_evT (fr : Frame) : fr.eval = evT fr.tmps := by funext x; cases x <;> rfl
theorem D.ofNat_inj {m n : Nat} (hm : m < 8) (hn : n < 8) (h : D.ofNat m = D.ofNat n) : m = n := by
  match m, n, hm, hn with
  | 0, 0, _, _ => rfl
  | 1, 1, _, _ => rfl
  | 2, 2, _, _ => rfl
  | 3, 3, _, _ => rfl
  | 4, 4, _, _ => rfl
  | 5, 5, _, _ => rfl
  | 6, 6, _, _ => rfl
  | 7, 7, _, _ => rfl
  | 0, 1, _, _ => cases h
  | 0, 2, _, _ => cases h
  | 0, 3, _, _ => cases h
  | 0, 4, _, _ => cases h
  | 0, 5, _, _ => cases h
  | 0, 6, _, _ => cases h
  | 0, 7, _, _ => cases h
  | 1, 0, _, _ => cases h
  | 1, 2, _, _ => cases h
  | 1, 3, _, _ => cases h
  | 1, 4, _, _ => cases h
  | 1, 5, _, _ => cases h
  | 1, 6, _, _ => cases h
  | 1, 7, _, _ => cases h
  | 2, 0, _, _ => cases h
  | 2, 1, _, _ => cases h
  | 2, 3, _, _ => cases h
  | 2, 4, _, _ => cases h
  | 2, 5, _, _ => cases h
  | 2, 6, _, _ => cases h
  | 2, 7, _, _ => cases h
  | 3, 0, _, _ => cases h
  | 3, 1, _, _ => cases h
  | 3, 2, _, _ => cases h
  | 3, 4, _, _ => cases h
  | 3, 5, _, _ => cases h
  | 3, 6, _, _ => cases h
  | 3, 7, _, _ => cases h
  | 4, 0, _, _ => cases h
  | 4, 1, _, _ => cases h
  | 4, 2, _, _ => cases h
  | 4, 3, _, _ => cases h
  | 4, 5, _, _ => cases h
  | 4, 6, _, _ => cases h
  | 4, 7, _, _ => cases h
  | 5, 0, _, _ => cases h
  | 5, 1, _, _ => cases h
  | 5, 2, _, _ => cases h
  | 5, 3, _, _ => cases h
  | 5, 4, _, _ => cases h
  | 5, 6, _, _ => cases h
  | 5, 7, _, _ => cases h
  | 6, 0, _, _ => cases h
  | 6, 1, _, _ => cases h
  | 6, 2, _, _ => cases h
  | 6, 3, _, _ => cases h
  | 6, 4, _, _ => cases h
  | 6, 5, _, _ => cases h
  | 6, 7, _, _ => cases h
  | 7, 0, _, _ => cases h
  | 7, 1, _, _ => cases h
  | 7, 2, _, _ => cases h
  | 7, 3, _, _ => cases h
  | 7, 4, _, _ => cases h
  | 7, 5, _, _ => cases h
  | 7, 6, _, _ => cases h
theorem digits_inj {t u : Nat} (ht : t < 512) (hu : u < 512)
    (h : D.ofNat (t / 64 % 8) = D.ofNat (u / 64 % 8) ∧ D.ofNat (t / 8 % 8) = D.ofNat (u / 8 % 8) ∧ D.ofNat (t % 8) = D.ofNat (u % 8)) : t = u := by
  obtain ⟨h1, h2, h3⟩ := h
  have h1 := D.ofNat_inj (Nat.mod_lt _ (by omega)) (Nat.mod_lt _ (by omega)) h1
  have h2 := D.ofNat_inj (Nat.mod_lt _ (by omega)) (Nat.mod_lt _ (by omega)) h2
  have h3 := D.ofNat_inj (Nat.mod_lt _ (by omega)) (Nat.mod_lt _ (by omega)) h3
  omega
theorem getT_setT (t : Nat) (v : AV) (tm : Tm) : getT t (setT t v tm) = v := tget_tset _ _ _ _ _
theorem getT_setT_ne {t u : Nat} (ht : t < 512) (hu : u < 512) (h : t ≠ u) (v : AV) (tm : Tm) : getT u (setT t v tm) = getT u tm :=
  tget_tset_ne (fun hh => h (digits_inj ht hu hh)) _ _
theorem put_s (t : Nat) (v : AV) (L : Lo) : put (slot t .s) v L = .mk (setT t v L.tm) v (getO .w0 L) (getO .w1 L) := by cases L; rfl
theorem put_o (t : Nat) (v : AV) (L : Lo) : put (slot t .o) v L = .mk (setT t v L.tm) (getO .w0 L) (getO .w1 L) (getO .w2 L) := by cases L; rfl
theorem put_w (v : AV) (L : Lo) : put .w v L = .mk L.tm v (getO .w0 L) (getO .w1 L) := by cases L; rfl
theorem put_no (v : AV) (L : Lo) : put .no v L = L := by cases L; rfl
theorem tm_mk (tm : Tm) (a b c : AV) : (Lo.mk tm a b c).tm = tm := rfl
theorem getO_t (a b c : D) (L : Lo) : getO (.t a b c) L = tget a b c L.tm := by cases L; rfl
theorem getO_c (v : AV) (L : Lo) : getO (.c v) L = v := by cases L; rfl
theorem inNd_lt {nd t : Nat} (h : inNd nd t = true) : t < 512 := by
  unfold inNd at h
  cases hb : Nat.blt t 512 with
  | true => exact Nat.le_of_ble_eq_true hb
  | false => rw [hb] at h; cases h
def Free (a : AV) : Prop := ∀ (V W : Val) (μ ν : Mu) (v : Value), @VR V μ a v → @VR W ν a v
mutual
theorem ofV_free : ∀ v : Value, Free (ofV v)
  | .bool b, V, W, μ, ν, x, h => by simpa only [ofV, VR] using h
  | .int k (.ofNat n), V, W, μ, ν, x, h => by simpa only [ofV, VR] using h
  | .int k (.negSucc n), V, W, μ, ν, x, h => by simpa only [ofV, VR] using h
  | .string s, V, W, μ, ν, x, h => by simpa only [ofV, VR] using h
  | .pointer none, V, W, μ, ν, x, h => by simpa only [ofV, VR] using h
  | .slice none 0 0, V, W, μ, ν, x, h => by simpa only [ofV, VR] using h
  | .map none, V, W, μ, ν, x, h => by simpa only [ofV, VR] using h
  | .func f ⟨fs⟩ ⟨cs⟩, V, W, μ, ν, x, h => by
    simp only [ofV, VR] at h ⊢
    obtain ⟨F, gs, ds, h1, h2, h3, h4⟩ := h
    exact ⟨F, gs, ds, h1, h2, ofVs_free fs V W μ ν _ h3, ofVs_free cs V W μ ν _ h4⟩
  | .nilFunc, V, W, μ, ν, x, h => by simpa only [ofV, VR] using h
  | .nilIface, V, W, μ, ν, x, h => by simpa only [ofV, VR] using h
  | .iface t v, V, W, μ, ν, x, h => by
    simp only [ofV, VR] at h ⊢
    obtain ⟨y, h1, h2⟩ := h
    exact ⟨y, h1, ofV_free v V W μ ν _ h2⟩
  | .agg ⟨cs⟩, V, W, μ, ν, x, h => by
    simp only [ofV, VR] at h ⊢
    obtain ⟨ds, h1, h2⟩ := h
    exact ⟨ds, h1, ofVs_free cs V W μ ν _ h2⟩
  | .tuple ⟨cs⟩, V, W, μ, ν, x, h => by
    simp only [ofV, VR] at h ⊢
    obtain ⟨ds, h1, h2⟩ := h
    exact ⟨ds, h1, ofVs_free cs V W μ ν _ h2⟩
  | .pointer (some a), V, W, μ, ν, x, h => by simp only [ofV, VR]
  | .slice (some a) n c, V, W, μ, ν, x, h => by simp only [ofV, VR]
  | .slice none (n + 1) c, V, W, μ, ν, x, h => by simp only [ofV, VR]
  | .slice none 0 (c + 1), V, W, μ, ν, x, h => by simp only [ofV, VR]
  | .map (some b), V, W, μ, ν, x, h => by simp only [ofV, VR]
  | .float .., V, W, μ, ν, x, h => by simp only [ofV, VR]
  | .complex .., V, W, μ, ν, x, h => by simp only [ofV, VR]
  | .chan _, V, W, μ, ν, x, h => by simp only [ofV, VR]
theorem ofVs_free : ∀ (l : List Value) (V W : Val) (μ ν : Mu) (vs : List Value), @VRs V μ (ofVs l) vs → @VRs W ν (ofVs l) vs
  | [], V, W, μ, ν, vs, h => by simpa only [ofVs, VRs] using h
  | v :: l, V, W, μ, ν, vs, h => by
    simp only [ofVs, VRs] at h ⊢
    obtain ⟨x, r, h1, h2, h3⟩ := h
    exact ⟨x, r, h1, ofV_free v V W μ ν x h2, ofVs_free l V W μ ν r h3⟩
end
def CleOk (nd : Nat) : Cle → Prop
  | .mk _ dep x => (∀ a b c, x = .t a b c → ∃ d, dep = some d ∧ inNd nd d = true ∧ slot d Opd.t = .t a b c) ∧ ∀ av, x = .c av → Free av
def ClOk (nd : Nat) (cl : Cl) : Prop := ∀ e, e ∈ cl → CleOk nd e
def ClR (μ : Mu) (cl : Cl) (L : Lo) (tmps : Array Value) : Prop := ∀ u d x, Cle.mk u d x ∈ cl → VR μ (getO x L) (tmps.getD u undef)
structure KnR (nd : Nat) (μ : Mu) (cl : Cl) (L : Lo) (tmps : Array Value) : Prop where
  need : NeedR nd NoX μ L.tm tmps
  cok : ClOk nd cl
  cr : ClR μ cl L tmps
theorem KnR.mono {nd : Nat} {μ ν : Mu} (h : μ.le ν) {cl : Cl} {L : Lo} {tmps : Array Value} (k : KnR nd μ cl L tmps) : KnR nd ν cl L tmps :=
  ⟨k.need.mono h, k.cok, fun u d x hm => VR.mono h _ _ (k.cr u d x hm)⟩
theorem KnR.forget {nd : Nat} {μ : Mu} {cl : Cl} {L : Lo} {tmps : Array Value} (k : KnR nd μ cl L tmps) : KnR nd μ [] L tmps :=
  ⟨k.need, (fun e he => by cases he), fun u d x hm => by cases hm⟩
theorem clGet_mem : ∀ {cl : Cl} {t : Nat} {e : Cle}, clGet t cl = some e → e ∈ cl ∧ ∃ d x, e = .mk t d x
  | [], t, e, h => by cases h
  | .mk u d x :: l, t, e, h => by
    unfold clGet at h
    cases hb : Nat.beq t u with
    | true =>
      rw [hb] at h
      have := Nat.eq_of_beq_eq_true hb; subst this
      cases h
      exact ⟨by simp, d, x, rfl⟩
    | false =>
      rw [hb] at h
      obtain ⟨h1, h2⟩ := clGet_mem (cl := l) (t := t) (e := e) h
      exact ⟨by simp [h1], h2⟩
section
variable {E : Env} {μ : Mu} (hG : GR E μ) {nd : Nat} {cl : Cl} {L : Lo} {tmps : Array Value}
theorem slotX_getO {t : Nat} (L : Lo) : getO (slotX nd t) L = if inNd nd t = true then getT t L.tm else .top := by
  unfold slotX
  cases inNd nd t with
  | true => simp only [cond_true, if_true]; exact getO_t _ _ _ _
  | false => simp only [cond_false, Bool.false_eq_true, if_false]; exact getO_c _ _
include hG in
theorem need_q {X : Nat → Prop} (hk : NeedR nd X μ L.tm tmps) (hX : ∀ t, X t → False) (hc : ClR μ cl L tmps) : ∀ x, VR μ (getO (opdW nd (gl E) cl x) L) (evT tmps x)
  | .tmp t => by
    show VR μ (getO (match clGet t cl with | some (.mk _ _ x) => x | none => slotX nd t) L) (tmps.getD t undef)
    cases hg : clGet t cl with
    | none =>
      simp only
      rw [slotX_getO]
      split
      · rename_i h; exact hk t h (fun hx => hX t hx)
      · simp only [VR]
    | some e =>
      obtain ⟨h1, d, x, rfl⟩ := clGet_mem hg
      exact hc t d x h1
  | .const v => by
    show VR μ (getO (.c (ofV v)) L) v
    rw [getO_c]; exact ofV_sound μ v
  | .global g => by
    show VR μ (getO (bif inM (gl E) g then .c (.ptr (Key.ofNat g) 0 0) else .c .top) L) (.pointer (some ⟨g, 0, none⟩))
    cases hg : inM (gl E) g with
    | true =>
      simp only [cond_true]
      rw [getO_c]
      obtain ⟨n, hn⟩ := hG g hg
      simp only [VR]
      exact ⟨g, 0, n, hn, Nat.le_refl _, rfl⟩
    | false => simp only [cond_false]; rw [getO_c]; simp only [VR]
  | .func f => by
    show VR μ (getO (.c (.func (.fn (.func f)) [] [])) L) (.func (.func f) #[] #[])
    rw [getO_c]; simp only [VR]; exact ⟨_, _, _, rfl, rfl, .nil, .nil⟩
include hG in
theorem KnR.q (hk : KnR nd μ cl L tmps) : ∀ x, VR μ (getO (opdW nd (gl E) cl x) L) (evT tmps x) := need_q hG hk.need (fun _ h => h) hk.cr
theorem mem_kill {t : Nat} : ∀ {cl : Cl} {u : Nat} {d : Option Nat} {x : Opd}, Cle.mk u d x ∈ kill t cl → Cle.mk u d x ∈ cl ∧ u ≠ t ∧ d ≠ some t
  | [], u, d, x, h => by cases h
  | .mk u0 d0 x0 :: l, u, d, x, h => by
    unfold kill at h
    cases hb : Nat.beq t u0 || depN t d0 with
    | true =>
      rw [hb] at h
      obtain ⟨h1, h2⟩ := mem_kill (t := t) (cl := l) (show Cle.mk u d x ∈ kill t l from h)
      exact ⟨List.mem_cons_of_mem _ h1, h2⟩
    | false =>
      rw [hb] at h
      rcases List.mem_cons.1 (show Cle.mk u d x ∈ Cle.mk u0 d0 x0 :: kill t l from h) with h1 | h1
      · cases h1
        simp only [Bool.or_eq_false_iff] at hb
        refine ⟨by simp, fun hh => by subst hh; simp at hb, fun hh => ?_⟩
        subst hh
        simp [depN] at hb
      · obtain ⟨h1, h2⟩ := mem_kill (t := t) (cl := l) h1
        exact ⟨List.mem_cons_of_mem _ h1, h2⟩
theorem mem_shift : ∀ {cl : Cl} {u : Nat} {d : Option Nat} {y : Opd}, Cle.mk u d y ∈ shiftL cl → ∃ x, Cle.mk u d x ∈ cl ∧ shiftO x = some y
  | [], u, d, y, h => by cases h
  | .mk u0 d0 x0 :: l, u, d, y, h => by
    unfold shiftL at h
    split at h
    · rename_i y0 hy
      rcases List.mem_cons.1 h with h1 | h1
      · cases h1; exact ⟨x0, by simp, hy⟩
      · obtain ⟨x, h2, h3⟩ := mem_shift h1; exact ⟨x, List.mem_cons_of_mem _ h2, h3⟩
    · obtain ⟨x, h2, h3⟩ := mem_shift h; exact ⟨x, List.mem_cons_of_mem _ h2, h3⟩
theorem getD_set {tmps : Array Value} {t u : Nat} {v : Value} (ht : t < tmps.size) : (tmps.setIfInBounds t v).getD u undef = if t = u then v else tmps.getD u undef := by
  simp only [Array.getD_eq_getD_getElem?, Array.getElem?_setIfInBounds]
  split
  · rename_i h; subst h; simp [ht]
  · rfl
theorem KnR.put (hk : KnR nd μ cl L tmps) {t n : Nat} {a : AV} {v : Value} (hok : okD n (some t) = true) (hn : n ≤ tmps.size) (hv : VR μ a v) :
    KnR nd μ (pushCl (some t) cl) (put (dstN nd (some t)) a L) (tmps.setIfInBounds t v) := by
  have hok' : t < n ∧ t < 512 := by
    simp only [okD, Bool.and_eq_true] at hok
    exact ⟨Nat.le_of_ble_eq_true hok.1, Nat.le_of_ble_eq_true hok.2⟩
  obtain ⟨htn, ht⟩ := hok'
  have hts : t < tmps.size := by omega
  have hcok : ClOk nd (pushCl (some t) cl) := by
    intro e he
    rcases List.mem_cons.1 (show e ∈ Cle.mk t none .w0 :: shiftL (kill t cl) from he) with h1 | h1
    · subst h1; exact ⟨fun a b c hh => (by cases hh), fun av hh => (by cases hh)⟩
    · obtain ⟨u, d, y⟩ := e
      obtain ⟨x, h2, h3⟩ := mem_shift h1
      obtain ⟨h4, _, _⟩ := mem_kill h2
      have := hk.cok _ h4
      refine ⟨fun a b c hh => ?_, fun av hh => ?_⟩
      · subst hh
        have hx : x = .t a b c := by cases x <;> simp [shiftO] at h3 <;> simp [h3]
        exact this.1 a b c hx
      · subst hh
        have hx : x = .c av := by cases x <;> simp [shiftO] at h3 <;> simp [h3]
        exact this.2 av hx
  -- the tree and the last values
  have key : ∀ tm', (∀ u, inNd nd u = true → VR μ (getT u tm') ((tmps.setIfInBounds t v).getD u undef)) → (∀ u, u < 512 → u ≠ t → getT u tm' = getT u L.tm) →
      KnR nd μ (pushCl (some t) cl) (.mk tm' a (getO .w0 L) (getO .w1 L)) (tmps.setIfInBounds t v) := by
    intro tm' h1 h2
    refine ⟨fun u hu _ => h1 u hu, hcok, fun u d y hm => ?_⟩
    rcases List.mem_cons.1 (show Cle.mk u d y ∈ Cle.mk t none .w0 :: shiftL (kill t cl) from hm) with h3 | h3
    · cases h3
      rw [getD_set hts, if_pos rfl]; exact hv
    · obtain ⟨x, h4, h5⟩ := mem_shift h3
      obtain ⟨h6, h7, h8⟩ := mem_kill h4
      rw [getD_set hts, if_neg (Ne.symm h7)]
      have h9 := hk.cr u d x h6
      cases x with
      | w0 => cases h5; exact h9
      | w1 => cases h5; exact h9
      | w2 => cases h5
      | c av => cases h5; rw [getO_c] at h9 ⊢; exact h9
      | t p q r =>
        cases h5
        obtain ⟨d', e1, e2, e3⟩ := (hk.cok _ h6).1 p q r rfl
        rw [getO_t] at h9 ⊢
        have e4 : tget p q r tm' = getT d' tm' := by
          have : slot d' Opd.t = .t (D.ofNat (d' / 64 % 8)) (D.ofNat (d' / 8 % 8)) (D.ofNat (d' % 8)) := rfl
          rw [this] at e3; cases e3; rfl
        have e5 : tget p q r L.tm = getT d' L.tm := by
          have : slot d' Opd.t = .t (D.ofNat (d' / 64 % 8)) (D.ofNat (d' / 8 % 8)) (D.ofNat (d' % 8)) := rfl
          rw [this] at e3; cases e3; rfl
        rw [tm_mk, e4, h2 d' (inNd_lt e2) (fun hh => h8 (by rw [e1, hh])), ← e5]
        exact h9
  show KnR nd μ (pushCl (some t) cl) (Go.Ev.put (bif inNd nd t then slot t .s else .w) a L) (tmps.setIfInBounds t v)
  cases hnd : inNd nd t with
  | true =>
    simp only [hnd, cond_true]
    rw [put_s]
    refine key _ (fun u hu => ?_) (fun u hu hne => getT_setT_ne ht hu (Ne.symm hne) _ _)
    rw [getD_set hts]
    by_cases htu : t = u
    · subst htu; rw [if_pos rfl, getT_setT]; exact hv
    · rw [if_neg htu, getT_setT_ne ht (inNd_lt hu) htu]; exact hk.need u hu (fun h => h)
  | false =>
    simp only [hnd, cond_false]
    rw [put_w]
    refine key _ (fun u hu => ?_) (fun _ _ _ => rfl)
    have htu : t ≠ u := fun hh => by subst hh; rw [hnd] at hu; cases hu
    rw [getD_set hts, if_neg htu]; exact hk.need u hu (fun h => h)
theorem KnR.putNone (hk : KnR nd μ cl L tmps) (a : AV) : KnR nd μ (pushCl none cl) (Go.Ev.put (dstN nd none) a L) tmps := by
  rw [show dstN nd none = .no from rfl, put_no]; exact hk
include hG in
theorem KnR.alias (hk : KnR nd μ cl L tmps) {t n : Nat} {x : Operand} (hok : okD n (some t) = true) (hn : n ≤ tmps.size) :
    KnR nd μ (aliasCl nd t x cl) (bif inNd nd t then Go.Ev.put (slot t .o) (getO (opdW nd (gl E) cl x) L) L else L) (tmps.setIfInBounds t (evT tmps x)) := by
  have hok' : t < n ∧ t < 512 := by
    simp only [okD, Bool.and_eq_true] at hok
    exact ⟨Nat.le_of_ble_eq_true hok.1, Nat.le_of_ble_eq_true hok.2⟩
  obtain ⟨htn, ht⟩ := hok'
  have hts : t < tmps.size := by omega
  have hq := hk.q hG x
  -- the frame behind it
  have hL : ∃ tm', (bif inNd nd t then Go.Ev.put (slot t .o) (getO (opdW nd (gl E) cl x) L) L else L) = .mk tm' (getO .w0 L) (getO .w1 L) (getO .w2 L) ∧
      (∀ u, inNd nd u = true → VR μ (getT u tm') ((tmps.setIfInBounds t (evT tmps x)).getD u undef)) ∧ (∀ u, u < 512 → u ≠ t → getT u tm' = getT u L.tm) := by
    cases hnd : inNd nd t with
    | true =>
      refine ⟨setT t (getO (opdW nd (gl E) cl x) L) L.tm, by simp only [cond_true]; rw [put_o], fun u hu => ?_, fun u hu hne => getT_setT_ne ht hu (Ne.symm hne) _ _⟩
      rw [getD_set hts]
      by_cases htu : t = u
      · subst htu; rw [if_pos rfl, getT_setT]; exact hq
      · rw [if_neg htu, getT_setT_ne ht (inNd_lt hu) htu]; exact hk.need u hu (fun h => h)
    | false =>
      refine ⟨L.tm, by simp only [cond_false]; cases L; rfl, fun u hu => ?_, fun _ _ _ => rfl⟩
      have htu : t ≠ u := fun hh => by subst hh; rw [hnd] at hu; cases hu
      rw [getD_set hts, if_neg htu]; exact hk.need u hu (fun h => h)
  obtain ⟨tm', e0, h1, h2⟩ := hL
  rw [e0]
  -- an old place still holds what it held, but for slot t
  have old : ∀ d y, (∀ a b c, y = .t a b c → ∃ d', d = some d' ∧ inNd nd d' = true ∧ slot d' Opd.t = .t a b c) → d ≠ some t → getO y (.mk tm' (getO .w0 L) (getO .w1 L) (getO .w2 L)) = getO y L := by
    intro d y hc hd
    cases y with
    | w0 => rfl
    | w1 => rfl
    | w2 => rfl
    | c av => rw [getO_c, getO_c]
    | t p q r =>
      obtain ⟨d', e1, e2, e3⟩ := hc p q r rfl
      have hs : slot d' Opd.t = .t (D.ofNat (d' / 64 % 8)) (D.ofNat (d' / 8 % 8)) (D.ofNat (d' % 8)) := rfl
      rw [hs] at e3; cases e3
      rw [getO_t, getO_t]
      exact h2 d' (inNd_lt e2) (fun hh => hd (by rw [e1, hh]))
  -- entries that stay
  have stay : ∀ u d y, Cle.mk u d y ∈ kill t cl → CleOk nd (.mk u d y) ∧ VR μ (getO y (.mk tm' (getO .w0 L) (getO .w1 L) (getO .w2 L))) ((tmps.setIfInBounds t (evT tmps x)).getD u undef) := by
    intro u d y hm
    obtain ⟨h6, h7, h8⟩ := mem_kill hm
    refine ⟨hk.cok _ h6, ?_⟩
    rw [old d y (hk.cok _ h6).1 h8, getD_set hts, if_neg (Ne.symm h7)]
    exact hk.cr u d y h6
  have fin : ∀ (new : List Cle), (∀ e ∈ new, ∃ d y, e = .mk t d y ∧ CleOk nd e ∧ VR μ (getO y (.mk tm' (getO .w0 L) (getO .w1 L) (getO .w2 L))) (evT tmps x)) →
      KnR nd μ (new ++ kill t cl) (.mk tm' (getO .w0 L) (getO .w1 L) (getO .w2 L)) (tmps.setIfInBounds t (evT tmps x)) := by
    intro new hnew
    refine ⟨fun u hu _ => h1 u hu, fun e he => ?_, fun u d y hm => ?_⟩
    · rcases List.mem_append.1 he with h3 | h3
      · obtain ⟨d, y, rfl, h4, _⟩ := hnew e h3; exact h4
      · obtain ⟨u, d, y⟩ := e; exact (stay u d y h3).1
    · rcases List.mem_append.1 hm with h3 | h3
      · obtain ⟨d', y', e3, _, h5⟩ := hnew _ h3
        cases e3
        rw [getD_set hts, if_pos rfl]; exact h5
      · exact (stay u d y h3).2
  cases x with
  | tmp v =>
    show KnR nd μ (match clGet v cl with | some (.mk _ d y) => bif depN t d then kill t cl else .mk t d y :: kill t cl | none => bif Nat.beq t v then cl else bif inNd nd v then .mk t (some v) (slotX nd v) :: kill t cl else kill t cl) _ _
    cases hg : clGet v cl with
    | none =>
      simp only
      cases htv : Nat.beq t v with
      | true =>
        have := Nat.eq_of_beq_eq_true htv; subst this
        simp only [cond_true]
        -- nothing is turned
        have hsame : tmps.setIfInBounds t (evT tmps (.tmp t)) = tmps := by
          apply Array.ext_getElem?
          intro j
          rw [Array.getElem?_setIfInBounds]
          by_cases hj : t = j
          · subst hj; simp [hts, evT, Array.getD_eq_getD_getElem?]
          · simp [hj]
        rw [hsame] at h1 ⊢
        refine ⟨fun u hu _ => h1 u hu, hk.cok, fun u d y hm => ?_⟩
        have h9 := hk.cr u d y hm
        cases y with
        | w0 => exact h9
        | w1 => exact h9
        | w2 => exact h9
        | c av => rw [getO_c] at h9 ⊢; exact h9
        | t p q r =>
          obtain ⟨d', e1, e2, e3⟩ := (hk.cok _ hm).1 p q r rfl
          have hs : slot d' Opd.t = .t (D.ofNat (d' / 64 % 8)) (D.ofNat (d' / 8 % 8)) (D.ofNat (d' % 8)) := rfl
          rw [hs] at e3; cases e3
          rw [getO_t] at h9 ⊢
          by_cases hdt : d' = t
          · subst hdt
            -- the slot holds what it held
            show VR μ (getT d' tm') _
            have e5 : getT d' tm' = getT d' L.tm := by
              have e6 : (bif inNd nd d' then Go.Ev.put (slot d' .o) (getO (opdW nd (gl E) cl (.tmp d')) L) L else L) = .mk (setT d' (getO (opdW nd (gl E) cl (.tmp d')) L) L.tm) (getO .w0 L) (getO .w1 L) (getO .w2 L) := by rw [e2]; simp only [cond_true]; rw [put_o]
              rw [e6] at e0
              cases e0
              rw [getT_setT]
              show getO (match clGet d' cl with | some (.mk _ _ x) => x | none => slotX nd d') L = _
              rw [hg]
              simp only
              rw [slotX_getO, if_pos e2]
            rw [e5]; exact h9
          · have := h2 d' (inNd_lt e2) hdt
            show VR μ (getT d' tm') _
            rw [this]; exact h9
      | false =>
        simp only [cond_false]
        have htv' : t ≠ v := fun hh => by subst hh; simp at htv
        cases hnv : inNd nd v with
        | false => simp only [cond_false]; exact fin [] (by simp)
        | true =>
          simp only [cond_true]
          refine fin [.mk t (some v) (slotX nd v)] (fun e he => ?_)
          simp only [List.mem_singleton] at he
          subst he
          have hsx : slotX nd v = slot v Opd.t := by unfold slotX; rw [hnv]; rfl
          refine ⟨_, _, rfl, ⟨fun a b c hh => ⟨v, rfl, hnv, by rw [← hh, hsx]⟩, fun av hh => by rw [hsx] at hh; cases hh⟩, ?_⟩
          rw [old (some v) (slotX nd v) (fun a b c hh => ⟨v, rfl, hnv, by rw [← hh, hsx]⟩) (fun hh => htv' (Option.some.inj hh).symm), slotX_getO, if_pos hnv]
          exact hk.need v hnv (fun h => h)
    | some e =>
      obtain ⟨h3, d, y, rfl⟩ := clGet_mem hg
      simp only
      cases hd : depN t d with
      | true => simp only [cond_true]; exact fin [] (by simp)
      | false =>
        simp only [cond_false]
        refine fin [.mk t d y] (fun e he => ?_)
        simp only [List.mem_singleton] at he
        subst he
        refine ⟨_, _, rfl, (show CleOk nd (.mk v d y) from hk.cok _ h3), ?_⟩
        rw [old d y (hk.cok _ h3).1 (fun hh => by subst hh; simp [depN] at hd)]
        exact hk.cr v d y h3
  | const v =>
    refine fin [.mk t none (.c (ofV v))] (fun e he => ?_)
    simp only [List.mem_singleton] at he
    subst he
    exact ⟨_, _, rfl, ⟨fun a b c hh => (by cases hh), fun av hh => (by cases hh; exact ofV_free v)⟩, by rw [getO_c]; exact ofV_sound μ v⟩
  | global g => exact fin [] (by simp)
  | func f =>
    refine fin [.mk t none (.c (.func (.fn (.func f)) [] []))] (fun e he => ?_)
    simp only [List.mem_singleton] at he
    subst he
    exact ⟨_, _, rfl, ⟨fun a b c hh => (by cases hh), fun av hh => (by
      cases hh
      intro V W μ ν v hv
      simp only [VR] at hv ⊢
      obtain ⟨F, gs, ds, h1, h2, h3, h4⟩ := hv
      exact ⟨F, gs, ds, h1, h2, by simpa only [VRs] using h3, by simpa only [VRs] using h4⟩)⟩, by rw [getO_c]; simp only [VR]; exact ⟨_, _, _, rfl, rfl, .nil, .nil⟩⟩
end
end
end Go.Ev

namespace Go.Ev
set_option linter.unusedVariables false
set_option linter.unusedSectionVars false
set_option linter.unusedSimpArgs false
noncomputable section
variable [Val] [Fk]
theorem ciAppend_eq (l k : List Ci) : ciAppend l k = l ++ k := by induction l with | nil => rfl | cons a l ih => show a :: ciAppend l k = _; rw [ih]; rfl
def AtR (μ : Mu) (l : Key) (b : Nat) : Prop := ∃ s n, μ l 0 = some (b, s, n)
inductive TodoR (E : Env) (x : Cx) (μ : Mu) : Cl → List Ci → List Item → Prop where
  | nil (cl) : TodoR E x μ cl [] []
  | forget {cl l k} : TodoR E x μ [] l k → TodoR E x μ cl l k
  | code {cl c l k} : TodoR E x μ (aft x.nd cl c) l k → TodoR E x μ cl (compC E x cl c ++ l) (.code c :: k)
  | inBlock {cl id l k} : TodoR E x μ [] l k → TodoR E x μ cl (.inBlock id :: l) (.inBlock id :: k)
  | inLoop {cl b l k} : TodoR E x μ [] l k → TodoR E x μ cl (.inLoop (compC E x [] b) :: l) (.inLoop b :: k)
  | inScope {cl c l k} : TodoR E x μ [] l k → TodoR E x μ cl (.inScope c :: l) (.inScope c :: k)
  | mid {cl arr i n l k} : i + n = arr.size → TodoR E x μ (aftOs x.nd cl (arr.toList.drop i)) l k → TodoR E x μ cl (.mid (compOs E arr x cl (arr.toList.drop i)) :: l) (.inRegion arr (List.range' i n) :: k)
  | endRF {cl l b rest k} : AtR μ l b → TodoR E x μ [] rest k → TodoR E x μ cl (.endRF l :: rest) (.endRangeFunc b :: k)
  | beginRound {cl l k} : TodoR E x μ [] l k → TodoR E x μ cl (.beginRound :: l) (.beginRound :: k)
theorem AtR.mono {μ ν : Mu} (h : μ.le ν) {l : Key} {b : Nat} : AtR μ l b → AtR ν l b := fun ⟨s, n, k⟩ => ⟨s, n, h _ _ _ k⟩
theorem TodoR.mono {E : Env} {x : Cx} {μ ν : Mu} (h : μ.le ν) {cl : Cl} {l : List Ci} {k : List Item} (t : TodoR E x μ cl l k) : TodoR E x ν cl l k := by
  induction t with
  | nil cl => exact .nil cl
  | forget _ ih => exact .forget ih
  | code _ ih => exact .code ih
  | inBlock _ ih => exact .inBlock ih
  | inLoop _ ih => exact .inLoop ih
  | inScope _ ih => exact .inScope ih
  | mid h1 _ ih => exact .mid h1 ih
  | endRF h1 _ ih => exact .endRF (h1.mono h) ih
  | beginRound _ ih => exact .beginRound ih
/-! jumps -/
theorem exitA_comp (E : Env) (x : Cx) (id : Nat) : ∀ (c : Code) (cl : Cl) (l : List Ci), exitA id (compC E x cl c ++ l) = exitA id l := by
  intro c
  induction c with
  | skip => intro cl l; rfl
  | region _ _ _ => intro cl l; rfl
  | seq a b iha ihb => intro cl l; simp only [compC, List.append_assoc]; rw [iha, ihb]
  | cond _ _ _ _ _ => intro cl l; rfl
  | block _ _ _ => intro cl l; rfl
  | loop _ _ => intro cl l; rfl
  | rangeFunc _ _ _ _ _ _ => intro cl l; rfl
  | exit _ => intro cl l; rfl
  | scope _ _ => intro cl l; rfl
  | label _ => intro cl l; rfl
  | goto _ => intro cl l; rfl
  | ret => intro cl l; rfl
  | refuse _ => intro cl l; rfl
theorem gotoA_comp (E : Env) (x y : Cx) (t : Nat) : ∀ (c : Code) (cl : Cl) (l : List Ci), gotoA E y t (compC E x cl c ++ l) = gotoA E y t l := by
  intro c
  induction c with
  | skip => intro cl l; rfl
  | region _ _ _ => intro cl l; rfl
  | seq a b iha ihb => intro cl l; simp only [compC, List.append_assoc]; rw [iha, ihb]
  | cond _ _ _ _ _ => intro cl l; rfl
  | block _ _ _ => intro cl l; rfl
  | loop _ _ => intro cl l; rfl
  | rangeFunc _ _ _ _ _ _ => intro cl l; rfl
  | exit _ => intro cl l; rfl
  | scope _ _ => intro cl l; rfl
  | label _ => intro cl l; rfl
  | goto _ => intro cl l; rfl
  | ret => intro cl l; rfl
  | refuse _ => intro cl l; rfl
section
variable {E : Env} {x : Cx} {μ : Mu}
theorem TodoR.exit {id : Nat} {cl : Cl} {l : List Ci} {k : List Item} (t : TodoR E x μ cl l k) :
    match exitA id l with
    | some l' => ∃ k', exitTo id k = some k' ∧ TodoR E x μ [] l' k'
    | none => exitTo id k = none := by
  induction t with
  | nil cl => rfl
  | forget _ ih => exact ih
  | @code cl c l k t ih => rw [exitA_comp]; exact ih
  | @inBlock cl id' l k t ih =>
    simp only [exitA]
    cases hb : Nat.beq id' id with
    | true =>
      have := Nat.eq_of_beq_eq_true hb; subst this
      simp only [cond_true, exitTo, beq_self_eq_true, if_true]
      exact ⟨k, rfl, t⟩
    | false =>
      have hne : id' ≠ id := fun hh => by subst hh; simp at hb
      simp only [cond_false, exitTo, beq_iff_eq, hne, if_false]
      exact ih
  | inLoop _ ih => exact ih
  | inScope _ ih => exact ih
  | mid _ _ ih => exact ih
  | endRF _ _ ih => exact ih
  | beginRound _ ih => exact ih
theorem TodoR.goto {t : Nat} {cl : Cl} {l : List Ci} {k : List Item} (h : TodoR E x μ cl l k) :
    match gotoA E x t l with
    | some l' => ∃ k', gotoIn t k = some k' ∧ TodoR E x μ [] l' k'
    | none => gotoIn t k = none := by
  induction h with
  | nil cl => rfl
  | forget _ ih => exact ih
  | @code cl c l k _ ih => rw [gotoA_comp]; exact ih
  | inBlock _ ih => exact ih
  | inLoop _ ih => exact ih
  | @inScope cl c l k h ih =>
    simp only [gotoA, gotoIn]
    cases hf : findLabel c t with
    | some rest =>
      simp only
      refine ⟨_, rfl, ?_⟩
      rw [ciAppend_eq]
      exact .code (.forget (.inScope h))
    | none => simp only; exact ih
  | mid _ _ ih => exact ih
  | endRF _ _ ih => exact ih
  | beginRound _ ih => exact ih
/-! the head of what is left to do -/
inductive HeadR (E : Env) (x : Cx) (μ : Mu) : Cl → List Ci → List Item → Prop where
  | nil (cl) : HeadR E x μ cl [] []
  | reg {cl id ops dr l k} : TodoR E x μ (aft x.nd cl (.region id ops dr)) l k → HeadR E x μ cl (.reg (regIns E ops dr x cl) :: l) (.code (.region id ops dr) :: k)
  | cond {cl y a b l k} : TodoR E x μ [] l k → HeadR E x μ cl (.cond (opdW x.nd (gl E) cl y) (compC E x cl a) (compC E x cl b) :: l) (.code (.cond y a b) :: k)
  | block {cl id b l k} : TodoR E x μ [] l k → HeadR E x μ cl (.block id (compC E x cl b) :: l) (.code (.block id b) :: k)
  | inBlock {cl id l k} : TodoR E x μ [] l k → HeadR E x μ cl (.inBlock id :: l) (.inBlock id :: k)
  | loop {cl b l k} : TodoR E x μ [] l k → HeadR E x μ cl (.loop (compC E x [] b) :: l) (.code (.loop b) :: k)
  | inLoop {cl b l k} : TodoR E x μ [] l k → HeadR E x μ cl (.inLoop (compC E x [] b) :: l) (.inLoop b :: k)
  | scope {cl c l k} : TodoR E x μ [] l k → HeadR E x μ cl (.scope c :: l) (.code (.scope c) :: k)
  | inScope {cl c l k} : TodoR E x μ [] l k → HeadR E x μ cl (.inScope c :: l) (.inScope c :: k)
  | exit {cl id l k} : TodoR E x μ [] l k → HeadR E x μ cl (.exit id :: l) (.code (.exit id) :: k)
  | goto {cl t l k} : TodoR E x μ [] l k → HeadR E x μ cl (.goto t :: l) (.code (.goto t) :: k)
  | ret {cl l k} : TodoR E x μ [] l k → HeadR E x μ cl (.ret :: l) (.code .ret :: k)
  | rangeF {cl f ps a b l k} : TodoR E x μ [] l k → HeadR E x μ cl (.rangeF (opdW x.nd (gl E) cl f) ps.toList a b :: l) (.code (.rangeFunc f ps a b) :: k)
  | refuse {cl l k} : HeadR E x μ cl (.bad :: l) k
  | mid {cl arr i n l k} : i + n = arr.size → TodoR E x μ (aftOs x.nd cl (arr.toList.drop i)) l k → HeadR E x μ cl (.mid (compOs E arr x cl (arr.toList.drop i)) :: l) (.inRegion arr (List.range' i n) :: k)
  | endRF {cl l b rest k} : AtR μ l b → TodoR E x μ [] rest k → HeadR E x μ cl (.endRF l :: rest) (.endRangeFunc b :: k)
  | beginRound {cl l k} : TodoR E x μ [] l k → HeadR E x μ cl (.beginRound :: l) (.beginRound :: k)
def csize : Code → Nat
  | .seq a b => csize a + csize b + 1
  | _ => 1
def isize : List Item → Nat
  | [] => 0
  | .code c :: k => csize c + isize k
  | _ :: k => isize k
theorem TodoR.head {P : Program} : ∀ (n : Nat) {cl : Cl} {l : List Ci} {k : List Item}, isize k ≤ n → TodoR E x μ cl l k → ∃ cl' k', (cl' = cl ∨ cl' = []) ∧ HeadR E x μ cl' l k' ∧
    ∀ (fr : Frame) (cs : List Frame) (w : World), fr.mode = .run → fr.todo = k → Steps P (lone fr cs w) (lone (Frame.to fr k') cs w) := by
  intro n
  induction n using Nat.strongRecOn with
  | ind n ihn =>
    intro cl l k hk t
    have same : ∀ {cl' : Cl} {k : List Item}, (cl' = cl ∨ cl' = []) → HeadR E x μ cl' l k → ∃ cl' k', (cl' = cl ∨ cl' = []) ∧ HeadR E x μ cl' l k' ∧
        ∀ (fr : Frame) (cs : List Frame) (w : World), fr.mode = .run → fr.todo = k → Steps P (lone fr cs w) (lone (Frame.to fr k') cs w) := by
      intro cl' k h1 h2
      refine ⟨cl', k, h1, h2, fun fr cs w _ ht => ?_⟩
      subst ht
      exact .refl _ _
    induction t with
    | nil cl => exact same (.inl rfl) (.nil cl)
    | forget t ih =>
      obtain ⟨cl', k', h1, h2, h3⟩ := ih hk (fun {cl'} {k} h1 h2 => by
        refine ⟨cl', k, h1, h2, fun fr cs w _ ht => ?_⟩
        subst ht
        exact .refl _ _)
      exact ⟨cl', k', .inr (by rcases h1 with h | h <;> exact h), h2, h3⟩
    | @code cl c l k t ih =>
      cases c with
      | skip =>
        obtain ⟨cl', k', h1, h2, h3⟩ := ihn (isize k) (by simp only [isize, csize] at hk; omega) (Nat.le_refl _) (show TodoR E x μ cl l k from t)
        exact ⟨cl', k', h1, h2, fun fr cs w hm ht => .head (s_skip hm ht) (h3 (Frame.to fr k) cs w hm rfl)⟩
      | label t' =>
        obtain ⟨cl', k', h1, h2, h3⟩ := ihn (isize k) (by simp only [isize, csize] at hk; omega) (Nat.le_refl _) (show TodoR E x μ [] l k from t)
        exact ⟨cl', k', .inr (by rcases h1 with h | h <;> exact h), h2, fun fr cs w hm ht => .head (s_label hm ht) (h3 (Frame.to fr k) cs w hm rfl)⟩
      | seq a b =>
        have t' : TodoR E x μ cl (compC E x cl a ++ (compC E x (aft x.nd cl a) b ++ l)) (.code a :: .code b :: k) := .code (.code t)
        obtain ⟨cl', k', h1, h2, h3⟩ := ihn (isize (.code a :: .code b :: k)) (by simp only [isize, csize] at hk ⊢; omega) (Nat.le_refl _) t'
        refine ⟨cl', k', h1, by simp only [compC, List.append_assoc]; exact h2, fun fr cs w hm ht => .head (s_seq hm ht) (h3 (Frame.to fr _) cs w hm rfl)⟩
      | region id ops dr => exact same (.inl rfl) (.reg t)
      | cond y a b => exact same (.inl rfl) (.cond t)
      | block id b => exact same (.inl rfl) (.block t)
      | loop b => exact same (.inl rfl) (.loop t)
      | rangeFunc f ps a b => exact same (.inl rfl) (.rangeF t)
      | exit id => exact same (.inl rfl) (.exit t)
      | scope b => exact same (.inl rfl) (.scope t)
      | goto t' => exact same (.inl rfl) (.goto t)
      | ret => exact same (.inl rfl) (.ret t)
      | refuse w => exact same (.inl rfl) .refuse
    | inBlock t ih => exact same (.inl rfl) (.inBlock t)
    | inLoop t ih => exact same (.inl rfl) (.inLoop t)
    | inScope t ih => exact same (.inl rfl) (.inScope t)
    | mid h1 t ih => exact same (.inl rfl) (.mid h1 t)
    | endRF h1 t ih => exact same (.inl rfl) (.endRF h1 t)
    | beginRound t ih => exact same (.inl rfl) (.beginRound t)
end
end
end Go.Ev
