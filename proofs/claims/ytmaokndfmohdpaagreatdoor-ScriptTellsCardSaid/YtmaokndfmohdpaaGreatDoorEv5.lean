/- THE EVALUATOR, part 5 of 10: EvEff EvEff2 EvEff3 EvEff4 EvEff5 EvEff6 EvEff7 -/
import Derived.Test.YtmaokndfmohdpaaGreatDoorEv4
import Derived.Laws.AppendOwn
import GoSem.Extern.Table
import Derived.KernelRfl
set_option linter.unusedVariables false
set_option linter.unusedSectionVars false
set_option linter.unusedSimpArgs false
namespace Go.Ev
set_option linter.unusedVariables false
set_option linter.unusedSectionVars false
set_option linter.unusedSimpArgs false
variable [Val]

/-- cells written one behind the other -/
def spliceA (cs : Array Value) (i : Nat) : List Value → Array Value
  | [] => cs
  | v :: vs => spliceA (cs.setIfInBounds i v) (i + 1) vs
theorem spliceA_size : ∀ (vs : List Value) (cs : Array Value) (i : Nat), (spliceA cs i vs).size = cs.size
  | [], cs, i => rfl
  | v :: vs, cs, i => by rw [spliceA, spliceA_size vs]; simp
theorem spliceA_get : ∀ (vs : List Value) (cs : Array Value) (i j : Nat), i + vs.length ≤ cs.size → (spliceA cs i vs)[j]? = if i ≤ j ∧ j < i + vs.length then vs[j - i]? else cs[j]?
  | [], cs, i, j, h => by simp [spliceA]; intro h1 h2; omega
  | v :: vs, cs, i, j, h => by
    simp only [List.length_cons] at h
    rw [spliceA, spliceA_get vs _ (i + 1) j (by simp; omega)]
    by_cases h1 : i + 1 ≤ j ∧ j < i + 1 + vs.length
    · rw [if_pos h1, if_pos (by simp; omega), show j - i = (j - (i + 1)) + 1 by omega]; simp
    · rw [if_neg h1, Array.getElem?_setIfInBounds]
      by_cases h2 : i = j
      · subst h2
        have h3 : i < cs.size := by omega
        simp [h3]
      · rw [if_neg h2, if_neg (by simp; omega)]

def World.put (w : World) (b : Nat) (o : Obj) : World := { w with heap := w.heap.setIfInBounds b o }

theorem setCell_put {w : World} {b i : Nat} {cs : Array Value} {e : TypeId} {fz : Nat × Nat} (hb : w.heap[b]? = some (.cells cs e fz)) (v : Value) :
    w.setCell ⟨b, i, none⟩ v = World.put w b (.cells (cs.setIfInBounds i v) e fz) := by
  unfold World.setCell World.put
  congr 1
  apply Array.ext_getElem?
  intro k
  obtain ⟨hlt, he⟩ := Array.getElem?_eq_some_iff.1 hb
  rw [Array.getElem?_modify, Array.getElem?_setIfInBounds]
  by_cases hk : b = k
  · subst hk; simp [he, hlt]
  · simp [hk]
theorem put_put {w : World} {b : Nat} {o o' : Obj} : World.put (World.put w b o) b o' = World.put w b o' := by
  unfold World.put
  simp
theorem put_get {w : World} {b : Nat} {o : Obj} (h : b < w.heap.size) : (World.put w b o).heap[b]? = some o := by
  simp [World.put, h]

theorem run_storeCells' {P : Program} {b e g : Nat} {fz : Nat × Nat} : ∀ (vs : List Value) (k x : Nat) (cs : Array Value) (w : World), w.heap[b]? = some (.cells cs e fz) → FzOk g cs fz → x + k + vs.length ≤ cs.size → (∀ v ∈ vs, v.oneCell' = true) →
    (storeCells ⟨b, x, none⟩ vs k).run P w = .ok () (World.put w b (.cells (spliceA cs (x + k) vs) e fz))
  | [], k, x, cs, w, hb, hf, hle, ho => by
    simp only [storeCells, Sem.run_pure, spliceA, Result.ok.injEq, true_and]
    unfold World.put
    obtain ⟨hlt, he⟩ := Array.getElem?_eq_some_iff.1 hb
    have : w.heap.setIfInBounds b (.cells cs e fz) = w.heap := by
      apply Array.ext_getElem?
      intro j
      rw [Array.getElem?_setIfInBounds]
      by_cases hj : b = j
      · subst hj; simp [hlt, he]
      · simp [hj]
    rw [this]
  | v :: vs, k, x, cs, w, hb, hf, hle, ho => by
    simp only [List.length_cons] at hle
    have ha : (⟨b, x, none⟩ : Addr).add k = ⟨b, x + k, none⟩ := add_zero_spot b x k
    have hlt : b < w.heap.size := (Array.getElem?_eq_some_iff.1 hb).1
    have hc : ∃ u, w.cell? ⟨b, x + k, none⟩ = some u := by
      rw [cell?_of_block hb, Array.getElem?_eq_getElem (by omega)]; exact ⟨_, rfl⟩
    obtain ⟨u, hu⟩ := hc
    have hfr := frozen?_of_block hb hf (i := x + k) (by omega)
    simp only [storeCells, Sem.run_bind, ha, run_store _ _ _ _ _ (ho v (by simp)), hu, hfr, Bool.false_eq_true, if_false, Result.andThen_ok, setCell_put hb]
    have hf' : FzOk g (cs.setIfInBounds (x + k) v) fz := by
      rcases hf with h0 | ⟨h0, h1⟩
      · exact .inl h0
      · exact .inr ⟨h0, by simpa using h1⟩
    rw [run_storeCells' vs (k + 1) x _ _ (put_get hlt) hf' (by simp; omega) (fun v hv => ho v (by simp [hv])), put_put]
    rfl

theorem oneCell_of {v : Value} (h : isScalar v) : v.oneCell' = true := by cases v <;> first | rfl | cases h
theorem allScalar_of {μ : Mu} : ∀ {l : List AV} {vs : List Value}, allScalar l = true → VRs μ l vs → ∀ v ∈ vs, v.oneCell' = true
  | [], vs, _, hv => by rw [hv.nil_inv]; simp
  | a :: l, vs, ha, hv => by
    obtain ⟨v, r, rfl, h1, h2⟩ := hv.cons_inv
    have ha : cnd a.scalar (allScalar l) false = true := ha
    rw [cnd_eq] at ha
    split at ha
    · rename_i hs
      intro y hy
      rcases List.mem_cons.1 hy with rfl | hy
      · exact oneCell_of (scalar_not h1 hs)
      · exact allScalar_of ha h2 y hy
    · cases ha

theorem Ext.put {B : Nat} {w : World} {b : Nat} {o : Obj} (h : B ≤ b) : Ext B w (World.put w b o) :=
  ⟨rfl, rfl, rfl, by simp [World.put], fun k hk => by simp only [World.put]; rw [Array.getElem?_setIfInBounds_ne (by omega)]⟩

theorem setNth_eq : ∀ (v : AV) (l : List AV) (j : Nat), setNth v l j = l.set j v
  | v, [], j => rfl
  | v, a :: l, 0 => rfl
  | v, a :: l, j + 1 => by show a :: setNth v l j = _; rw [setNth_eq v l j]; rfl

/-! ## rows written over -/
theorem overRows_sound {dp gw : Nat} : ∀ (ls : List (List AV)) (c : Tr Row) (r : Nat) (c' : Tr Row), Tr.Wf dp c → overRows dp gw c r ls = some c' →
    Tr.Wf dp c' ∧ (∀ k, c'.get k = if r ≤ k ∧ k < r + ls.length then (ls[k - r]?).map (Row.mk · gw) else c.get k) ∧ ∀ i, i < ls.length → ∃ l g0, c.get (r + i) = some (.mk l g0) ∧ g0 ≤ gw
  | [], c, r, c', hw, h => by
    cases h
    refine ⟨hw, fun k => ?_, fun i hi => by simp at hi⟩
    rw [if_neg (by simp only [List.length_nil]; omega)]
  | l :: ls, c, r, c', hw, h => by
    unfold overRows at h
    split at h
    · rename_i l0 g0 hr
      obtain ⟨hg, h⟩ := cnd_inv h
      have hlt := Tr.lt_of_get dp c r _ hw hr
      obtain ⟨h1, h2, h3⟩ := overRows_sound ls _ (r + 1) c' (Tr.set_wf dp c r _ hw) h
      refine ⟨h1, fun k => ?_, fun i hi => ?_⟩
      · rw [h2]
        simp only [List.length_cons]
        by_cases hk : r + 1 ≤ k ∧ k < r + 1 + ls.length
        · rw [if_pos hk, if_pos (by omega), show k - r = (k - (r + 1)) + 1 by omega]; simp
        · rw [if_neg hk, Tr.get_set dp c r k _ hw hlt]
          by_cases hkr : k = r
          · subst hkr; rw [if_pos rfl, if_pos (by omega)]; simp
          · rw [if_neg hkr, if_neg (by omega)]
      · cases i with
        | zero => exact ⟨l0, g0, hr, Nat.le_of_ble_eq_true hg⟩
        | succ i =>
          simp only [List.length_cons] at hi
          obtain ⟨l1, g1, e1, e2⟩ := h3 i (by omega)
          rw [Tr.get_set dp c r _ _ hw hlt] at e1
          rw [if_neg (by omega)] at e1
          exact ⟨l1, g1, by rw [← e1]; congr 1; omega, e2⟩
    · cases h

theorem flat_get {sz : Nat} : ∀ (ls : List (List AV)) (i j : Nat) (l : List AV), (∀ l ∈ ls, l.length = sz) → ls[i]? = some l → j < sz → (flat ls)[i * sz + j]? = l[j]?
  | [], i, j, l, _, h, _ => by simp at h
  | l0 :: ls, 0, j, l, hl, h, hj => by
    simp at h; subst h
    simp only [flat, Nat.zero_mul, Nat.zero_add]
    rw [List.getElem?_append_left (by rw [hl _ (by simp)]; exact hj)]
  | l0 :: ls, i + 1, j, l, hl, h, hj => by
    simp only [flat]
    rw [List.getElem?_append_right (by rw [hl _ (by simp), Nat.add_mul]; omega), hl l0 (by simp)]
    rw [show (i + 1) * sz + j - sz = i * sz + j by rw [Nat.add_mul]; omega]
    exact flat_get ls i j l (fun l hl' => hl l (by simp [hl'])) (by simpa using h) hj
theorem flat_length {sz : Nat} : ∀ (ls : List (List AV)), (∀ l ∈ ls, l.length = sz) → (flat ls).length = ls.length * sz
  | [], _ => by simp [flat]
  | l :: ls, h => by
    simp only [flat, List.length_append, flat_length ls (fun l hl => h l (by simp [hl])), h l (by simp), List.length_cons]
    rw [Nat.add_mul]; omega

section
variable {E : Env} {P : Program} (hE : EnvOk E P) {B : Nat} {μ : Mu} {h : Hp} {w : World} (hH : HR B μ h w)

/-- one row of which some cells are written -/
theorem rowSplice {cs : Array Value} {s sz r m : Nat} {old l : List AV} {vs : List Value} (hs : s ≤ r * sz) (hr : RowR μ cs s sz r old) (hv : VRs μ l vs) (hm : m + l.length ≤ sz) (hle : r * sz + m - s + vs.length ≤ cs.size) :
    RowR μ (spliceA cs (r * sz + m - s) vs) s sz r (putAt old m l) := by
  obtain ⟨h1, h2, h3⟩ := hr
  have hlv := hv.length
  refine ⟨h1, by simp only [putAt, List.length_append, List.length_take, List.length_drop]; omega, fun j a hj => ?_⟩
  rw [spliceA_get _ _ _ _ hle]
  simp only [putAt] at hj
  by_cases c1 : j < m
  · rw [List.append_assoc, List.getElem?_append_left (by simp; omega), List.getElem?_take, if_pos c1] at hj
    rw [if_neg (by omega)]
    exact h3 j a hj
  · by_cases c2 : j < m + l.length
    · rw [List.append_assoc, List.getElem?_append_right (by simp; omega), List.getElem?_append_left (by simp; omega)] at hj
      rw [if_pos (by omega)]
      obtain ⟨v, e1, e2⟩ := hv.get hj
      refine ⟨v, ?_, e2⟩
      rw [← e1]; congr 1; simp; omega
    · rw [List.getElem?_append_right (by simp; omega), List.getElem?_drop] at hj
      rw [if_neg (by omega)]
      refine h3 j a ?_
      rw [← hj]; congr 1; simp; omega

theorem mul_le_of_lt {a b sz : Nat} (h : a < b) : a * sz + sz ≤ b * sz := by
  have := Nat.mul_le_mul_right sz h
  rw [Nat.succ_mul] at this; exact this

/-- rows that are written over, as the model's cells -/
theorem overRows_HR (hH : HR B μ h w) {f : Key} {gen sz dp ext : Nat} {c c' : Tr Row} (ho : hget f h = .cells false gen sz dp ext c) {b s n r : Nat} (hm : μ f gen = some (b, s, n)) (hs : s ≤ r * sz)
    {ls : List (List AV)} (hov : overRows dp gen c r ls = some c') (hlen : ∀ l ∈ ls, l.length = sz) (hpos : 0 < ls.length) (hsz0 : 0 < sz) {vs : List Value} (hv : VRs μ (flat ls) vs)
    {cs : Array Value} {e : TypeId} {fz : Nat × Nat} (hheap : w.heap[b]? = some (.cells cs e fz)) :
    r * sz - s + vs.length ≤ cs.size ∧ HR B μ (hset f (.cells false gen sz dp ext c') h) (World.put w b (.cells (spliceA cs (r * sz - s) vs) e fz)) := by
  obtain ⟨hwf, hgen, hb⟩ := hH.cells ho
  obtain ⟨hB, hs0, cs1, e1, fz1, h1, hfz, hsz, hrows⟩ := hb gen b s n hm
  rw [hheap] at h1
  simp only [Option.some.injEq, Obj.cells.injEq] at h1
  obtain ⟨rfl, rfl, rfl⟩ := h1
  obtain ⟨k1, k2, k3⟩ := overRows_sound ls c r c' hwf.1 hov
  have hvl : vs.length = ls.length * sz := by rw [← hv.length, flat_length ls hlen]
  have hroom : r * sz - s + vs.length ≤ cs.size := by
    obtain ⟨k, hk⟩ : ∃ k, ls.length = k + 1 := ⟨ls.length - 1, by omega⟩
    obtain ⟨l, g0, e1, e2⟩ := k3 k (by omega)
    have hsk : s ≤ (r + k) * sz := Nat.le_trans hs (Nat.mul_le_mul_right sz (by omega))
    obtain ⟨_, q2, q3⟩ := hrows _ _ _ e1 e2 hsk
    obtain ⟨v, q4, _⟩ := q3 (sz - 1) (l[sz - 1]'(by omega)) (List.getElem?_eq_getElem (by omega))
    have q5 := (Array.getElem?_eq_some_iff.1 q4).1
    rw [hvl, hk]
    have : (r + k) * sz = r * sz + k * sz := Nat.add_mul _ _ _
    have : (k + 1) * sz = k * sz + sz := by rw [Nat.add_mul]; omega
    omega
  refine ⟨hroom, hH.write ho hm hheap (spliceA_size _ _ _) rfl k1 (fun k hk => ?_) (fun k l gw hg => ?_)⟩
  · rw [k2]
    split
    · rename_i hh
      obtain ⟨l, g0, e1, _⟩ := k3 (k - r) (by omega)
      rw [show r + (k - r) = k by omega, hwf.2 k hk] at e1; cases e1
    · exact hwf.2 k hk
  · rw [k2] at hg
    split at hg
    · rename_i hh
      right
      cases hls : ls[k - r]? with
      | none => rw [hls] at hg; cases hg
      | some l1 =>
        rw [hls] at hg
        simp only [Option.map_some, Option.some.injEq, Row.mk.injEq] at hg
        obtain ⟨rfl, rfl⟩ := hg
        refine ⟨rfl, fun hsk => ⟨hsk, hlen _ (List.mem_of_getElem? hls), fun j a hj => ?_⟩⟩
        have hjl : j < sz := by have := (List.getElem?_eq_some_iff.1 hj).1; rw [hlen _ (List.mem_of_getElem? hls)] at this; exact this
        have hf := flat_get ls (k - r) j l1 hlen hls hjl
        rw [hj] at hf
        obtain ⟨v, e1, e2⟩ := hv.get hf
        refine ⟨v, ?_, e2⟩
        have hkr : k * sz = r * sz + (k - r) * sz := by rw [← Nat.add_mul]; congr 1; omega
        have hin : (k - r) * sz + j < vs.length := (List.getElem?_eq_some_iff.1 e1).1
        rw [spliceA_get _ _ _ _ hroom, if_pos (by omega), ← e1]
        congr 1; omega
    · rename_i hh
      left
      refine ⟨hg, fun hsk j hj => ?_⟩
      rw [spliceA_get _ _ _ _ hroom, if_neg]
      rintro ⟨q1, q2⟩
      rcases Nat.lt_or_ge k r with h1 | h1
      · have := mul_le_of_lt (sz := sz) h1; omega
      · have h2 : r + ls.length ≤ k := by omega
        have := Nat.mul_le_mul_right sz h2
        rw [Nat.add_mul] at this; omega

theorem cutR_len : ∀ (sz n : Nat) (l : List AV), l.length = n * sz → (cutR sz n l).length = n ∧ (∀ x ∈ cutR sz n l, x.length = sz) ∧ flat (cutR sz n l) = l
  | sz, 0, l, h => by
    have : l = [] := List.length_eq_zero_iff.1 (by simpa using h)
    subst this; simp [cutR, flat]
  | sz, n + 1, l, h => by
    rw [Nat.add_mul, Nat.one_mul] at h
    obtain ⟨h1, h2, h3⟩ := cutR_len sz n (l.drop sz) (by simp; omega)
    refine ⟨by simp [cutR, h1], fun x hx => ?_, by simp [cutR, flat, h3]⟩
    simp only [cutR, List.mem_cons] at hx
    rcases hx with rfl | hx
    · simp; omega
    · exact h2 x hx

include hH in
theorem storeC_sound {f : Key} {g o n b s nn : Nat} {l : List AV} {vs : List Value} {h' : Hp} (hm : μ f g = some (b, s, nn)) (hs : s ≤ o) (hst : storeC h f g o n l = some h') (hl : l.length = n) (hn : 0 < n)
    (hv : VRs μ l vs) (ho1 : ∀ v ∈ vs, v.oneCell' = true) :
    ∃ w', (storeCells ⟨b, o - s, none⟩ vs).run P w = .ok () w' ∧ HR B μ h' w' ∧ Ext B w w' ∧ Kp h μ h' μ := by
  obtain ⟨ro, gen, sz, dp, ext, c, ho, hst⟩ := asCells_some hst
  obtain ⟨hro, hst⟩ := cnd_inv' hst
  subst hro
  obtain ⟨hg, hst⟩ := cnd_inv hst
  have hg := Nat.eq_of_beq_eq_true hg
  subst hg
  obtain ⟨hwf, hgen, hb⟩ := hH.cells ho
  obtain ⟨hB, hs0, cs, e, fz, hheap, hfz, hsz, hrows⟩ := hb g b s nn hm
  have hsr := start_le hs0 hs
  have e1 : o / sz * sz + o % sz = o := Nat.div_add_mod' o sz
  have hvl := hv.length
  have fin : ∀ h', o - s + vs.length ≤ cs.size → HR B μ h' (World.put w b (.cells (spliceA cs (o - s) vs) e fz)) → Kp h μ h' μ →
      ∃ w', (storeCells ⟨b, o - s, none⟩ vs).run P w = .ok () w' ∧ HR B μ h' w' ∧ Ext B w w' ∧ Kp h μ h' μ := fun h' hr hh hk =>
    ⟨_, run_storeCells' vs 0 (o - s) cs w hheap hfz (by omega) ho1, hh, Ext.put (hB rfl), hk⟩
  by_cases hin : Nat.ble (Nat.add (Nat.mod o sz) n) sz = true
  · rw [hin] at hst
    obtain ⟨⟨old, gw⟩, hr, hst⟩ := opt_inv (show opt _ none _ = some h' from hst)
    obtain ⟨hgw, hst⟩ := cnd_inv hst
    have hgw := Nat.le_of_ble_eq_true hgw
    have hle : o % sz + n ≤ sz := Nat.le_of_ble_eq_true hin
    have hrr : c.get (o / sz) = some (.mk old gw) := hr
    have hR := hrows _ _ _ hrr hgw hsr
    have hlt := Tr.lt_of_get dp c _ _ hwf.1 hrr
    have hput : cnd (Nat.beq n sz) l (putAt old (Nat.mod o sz) l) = putAt old (o % sz) l := by
      cases hns : Nat.beq n sz with
      | false => rfl
      | true =>
        have := Nat.eq_of_beq_eq_true hns
        have h0 : o % sz = 0 := by omega
        show l = _
        rw [h0]
        simp only [putAt, List.take_zero, List.nil_append, Nat.zero_add]
        rw [List.drop_eq_nil_of_le (by rw [hR.2.1]; omega), List.append_nil]
    have hroom : o - s + vs.length ≤ cs.size := by
      obtain ⟨v, q4, _⟩ := hR.2.2 (o % sz + n - 1) (old[o % sz + n - 1]'(by rw [hR.2.1]; omega)) (List.getElem?_eq_getElem (by rw [hR.2.1]; omega))
      have q5 := (Array.getElem?_eq_some_iff.1 q4).1
      omega
    have hst' : hset f (.cells false g sz dp ext (c.set dp (o / sz) (.mk (putAt old (o % sz) l) g))) h = h' := by
      rw [← hput]; exact Option.some.inj hst
    rw [← hst']
    refine fin _ hroom (hH.write ho hm hheap (spliceA_size _ _ _) rfl (Tr.set_wf _ _ _ _ hwf.1) (fun k hk => ?_) (fun k l1 gw1 hg1 => ?_)) (Kp.set rfl)
    · rw [Tr.get_set dp c _ _ _ hwf.1 hlt]
      split
      · rename_i hkr; subst hkr; rw [hwf.2 _ hk] at hrr; cases hrr
      · exact hwf.2 k hk
    · rw [Tr.get_set dp c _ _ _ hwf.1 hlt] at hg1
      split at hg1
      · rename_i hkr
        subst hkr
        simp only [Option.some.injEq, Row.mk.injEq] at hg1
        obtain ⟨rfl, rfl⟩ := hg1
        right
        refine ⟨rfl, fun _ => ?_⟩
        have hi : o - s = o / sz * sz + o % sz - s := by omega
        rw [hi]
        exact rowSplice hsr hR hv (by omega) (by omega)
      · rename_i hkr
        left
        refine ⟨hg1, fun hsk j hj => ?_⟩
        rw [spliceA_get _ _ _ _ hroom, if_neg]
        rintro ⟨q1, q2⟩
        rcases Nat.lt_or_ge k (o / sz) with h1 | h1
        · have := mul_le_of_lt (sz := sz) h1; omega
        · have := mul_le_of_lt (sz := sz) (show o / sz < k by omega); omega
  · have hin' := Bool.eq_false_iff.2 hin
    rw [hin'] at hst
    obtain ⟨h0, hst⟩ := cnd_inv (show cnd _ _ none = some h' from hst)
    obtain ⟨h0', hst⟩ := cnd_inv hst
    obtain ⟨c', hov, hst⟩ := opt_inv hst
    have h0 : o % sz = 0 := Nat.eq_of_beq_eq_true h0
    have h0' : n % sz = 0 := Nat.eq_of_beq_eq_true h0'
    have hszp : 0 < sz := by
      rcases Nat.eq_zero_or_pos sz with hz | hz
      · subst hz; simp at h0'; omega
      · exact hz
    have e2 : n / sz * sz = n := by have := Nat.div_add_mod' n sz; omega
    obtain ⟨l1, l2, l3⟩ := cutR_len sz (n / sz) l (by omega)
    have hnp : 0 < n / sz := Nat.div_pos (by
      have : ¬ (o % sz + n ≤ sz) := fun hh => hin (Nat.ble_eq_true_of_le hh)
      omega) hszp
    obtain ⟨r1, r2⟩ := overRows_HR hH ho hm hsr hov l2 (by rw [show (cutR sz (Nat.div n sz) l).length = n / sz from l1]; exact hnp) hszp (by rw [show flat (cutR sz (Nat.div n sz) l) = l from l3]; exact hv) hheap
    cases hst
    have hi : o / sz * sz - s = o - s := by omega
    rw [hi] at r1 r2
    exact fin _ r1 r2 (Kp.set rfl)

end
end Go.Ev


namespace Go.Ev
set_option linter.unusedVariables false
set_option linter.unusedSectionVars false
set_option linter.unusedSimpArgs false
variable [Val]

theorem run_unit {P : Program} {w w' : World} {s : Sem Unit} (h : s.run P w = .ok () w') : (do s; pure Next.skip : Sem Next).run P w = .ok .skip w' := by
  simp only [Sem.run_bind, h, Result.andThen_ok, Sem.run_pure]

/-- what an operation hands on: a value, or nothing at all -/
def nextV : Next → Option Value
  | .value v => some v
  | .skip => some undef
  | _ => none
/-- an operation turns memory -/
def Turns (P : Program) (ρ : Operand → Value) (B : Nat) (μ : Mu) (h : Hp) (w : World) (o : Oper) (a : AV) (h' : Hp) : Prop :=
  ∃ v nxt w' μ', (execOp ρ o).run P w = .ok nxt w' ∧ nextV nxt = some v ∧ VR μ' a v ∧ μ.le μ' ∧ HR B μ' h' w' ∧ Ext B w w' ∧ Kp h μ h' μ'
theorem vr_undef {μ : Mu} : VR μ undefA undef := by simp only [VR]; exact ⟨#[], rfl, .nil⟩

section
variable {E : Env} {P : Program} (hE : EnvOk E P) {B : Nat} {μ : Mu} {h : Hp} {w : World} (hH : HR B μ h w) {nx : Key} (hB : B ≤ w.heap.size)
  {L : Lo} {ρ : Operand → Value} {q : Operand → Opd} (hq : ∀ x, VR μ (getO (q x) L) (ρ x))
variable {d : Option Tmp} {ty : TypeId} {pos : String} {af : Array Edge} {gd : Option (Nat × Bool)} {a : AV} {h' : Hp} {nx' : Key}

theorem turns_skip {o : Oper} {w' : World} (hrun : (execOp ρ o).run P w = .ok .skip w') (hh : HR B μ h' w') (he : Ext B w w') (hk : Kp h μ h' μ) : Turns P ρ B μ h w o undefA h' :=
  ⟨undef, .skip, w', μ, hrun, rfl, vr_undef, Mu.le_refl _, hh, he, hk⟩

include hH in
theorem store1_sound {f : Key} {g o b s nn : Nat} {x : AV} {v : Value} {h' : Hp} (hm : μ f g = some (b, s, nn)) (hs : s ≤ o) (hst : store1 h f g o x = some h') (hv : VR μ x v) (ho1 : v.oneCell' = true) :
    ∃ w', (storeCells ⟨b, o - s, none⟩ [v]).run P w = .ok () w' ∧ HR B μ h' w' ∧ Ext B w w' ∧ Kp h μ h' μ := by
  obtain ⟨ro, gen, sz, dp, ext, c, ho, hst⟩ := asCells_some hst
  obtain ⟨hro, hst⟩ := cnd_inv' hst
  subst hro
  obtain ⟨hz0, hst⟩ := cnd_inv' hst
  have hsz0 : sz ≠ 0 := fun hh => by subst hh; cases hz0
  obtain ⟨hg, hst⟩ := cnd_inv hst
  have hg := Nat.eq_of_beq_eq_true hg
  subst hg
  obtain ⟨⟨old, gw⟩, hr, hst⟩ := opt_inv hst
  obtain ⟨hgw, hst⟩ := cnd_inv hst
  have hgw := Nat.le_of_ble_eq_true hgw
  obtain ⟨hwf, hgen, hb⟩ := hH.cells ho
  obtain ⟨hB, hs0, cs, e, fz, hheap, hfz, hsz, hrows⟩ := hb g b s nn hm
  have hsr := start_le hs0 hs
  have e1 : o / sz * sz + o % sz = o := Nat.div_add_mod' o sz
  have hrr : c.get (o / sz) = some (.mk old gw) := hr
  have hR := hrows _ _ _ hrr hgw hsr
  have hlt := Tr.lt_of_get dp c _ _ hwf.1 hrr
  rw [setNth_eq] at hst
  have hst' : hset f (.cells false g sz dp ext (c.set dp (o / sz) (.mk (old.set (o % sz) x) g))) h = h' := Option.some.inj hst
  have hml : o % sz < sz := Nat.mod_lt _ (by omega)
  have hset : old.set (o % sz) x = putAt old (o % sz) [x] := by
    rw [List.set_eq_take_append_cons_drop, if_pos (by rw [hR.2.1]; exact hml)]
    simp [putAt]
  have hroom : o - s + [v].length ≤ cs.size := by
    obtain ⟨u, q4, _⟩ := hR.2.2 (o % sz) (old[o % sz]'(by rw [hR.2.1]; omega)) (List.getElem?_eq_getElem (by rw [hR.2.1]; omega))
    have q5 := (Array.getElem?_eq_some_iff.1 q4).1
    simp only [List.length_cons, List.length_nil]
    omega
  rw [← hst']
  refine ⟨World.put w b (.cells (spliceA cs (o - s) [v]) e fz), run_storeCells' [v] 0 (o - s) cs w hheap hfz (by omega) (by simpa using ho1), hH.write ho hm hheap (spliceA_size _ _ _) rfl (Tr.set_wf _ _ _ _ hwf.1) (fun k hk => ?_) (fun k l1 gw1 hg1 => ?_), Ext.put (hB rfl), Kp.set rfl⟩
  · rw [Tr.get_set dp c _ _ _ hwf.1 hlt]
    split
    · rename_i hkr; subst hkr; rw [hwf.2 _ hk] at hrr; cases hrr
    · exact hwf.2 k hk
  · rw [Tr.get_set dp c _ _ _ hwf.1 hlt] at hg1
    split at hg1
    · rename_i hkr
      subst hkr
      simp only [Option.some.injEq, Row.mk.injEq] at hg1
      obtain ⟨rfl, rfl⟩ := hg1
      right
      refine ⟨rfl, fun _ => ?_⟩
      have hi : o - s = o / sz * sz + o % sz - s := by omega
      rw [hi, hset]
      refine rowSplice hsr hR (.cons hv .nil) (by simp only [List.length_cons, List.length_nil]; omega) (by omega)
    · rename_i hkr
      left
      refine ⟨hg1, fun hsk j hj => ?_⟩
      rw [spliceA_get _ _ _ _ hroom, if_neg]
      simp only [List.length_cons, List.length_nil]
      rintro ⟨q1, q2⟩
      rcases Nat.lt_or_ge k (o / sz) with h1 | h1
      · have := mul_le_of_lt (sz := sz) h1; omega
      · have := mul_le_of_lt (sz := sz) (show o / sz < k by omega); omega

include hE hH hq in
theorem e_store {t : TypeId} {n : Nat} {x y : Operand} (hn : E.size t = some n) (hev : xStore n (q x) (q y) h nx L = some (Tn.mk a h' nx')) : Turns P ρ B μ h w ⟨d, .store t x y, ty, pos, af, gd⟩ a h' := by
  obtain ⟨f, g, o, hp, hev⟩ := asPtr_some hev
  obtain ⟨b, s, m, hm, hs, hx⟩ := q_ptr hq hp
  have fin : ∀ {vs : List Value} {w' : World}, (ρ y).cells.toList = vs → vs.length = n → (storeCells ⟨b, o - s, none⟩ vs).run P w = .ok () w' →
      (execOp ρ ⟨d, .store t x y, ty, pos, af, gd⟩).run P w = .ok .skip w' := by
    intro vs w' h1 h2 h3
    refine run_unit (s := Instr.storeAt t (ρ x) (ρ y)) ?_
    rw [hx]
    have hc : (ρ y).cells.size = n := by rw [← h2, ← h1]; simp
    simp only [Instr.storeAt, Instr.sureAddr, storeVar, Sem.run_bind, Sem.run_pure, Result.andThen_ok, hE.runSize hn, hc, ne_eq, not_true_eq_false, if_false, h1, h3]
  have hy := hq y
  rcases (by cases getO (q y) L <;> first | exact .inl ⟨_, rfl⟩ | exact .inr (fun l h => by cases h) : (∃ l, getO (q y) L = .agg l) ∨ ∀ l, getO (q y) L ≠ .agg l) with ⟨l, hl⟩ | hna
  · rw [hl] at hev hy
    replace hev : cnd (Nat.beq l.length n) (opt (storeTo h f g o l) none fun h' => some (Tn.mk undefA h' nx)) none = some (Tn.mk a h' nx') := hev
    obtain ⟨h1, hev⟩ := cnd_inv hev
    have h1 := Nat.eq_of_beq_eq_true h1
    obtain ⟨h2, hst, hev⟩ := opt_inv hev
    simp only [Option.some.injEq, Tn.mk.injEq] at hev
    obtain ⟨rfl, rfl, rfl⟩ := hev
    simp only [VR] at hy
    obtain ⟨cs, hy, hvs⟩ := hy
    have hcl : (ρ y).cells.toList = cs.toList := by rw [hy]; rfl
    have hcn : cs.toList.length = n := by rw [← hvs.length, h1]
    unfold storeTo at hst
    by_cases hz : l.length = 0
    · have : Nat.beq l.length 0 = true := by rw [hz]; rfl
      rw [this] at hst
      cases hst
      have hnil : cs.toList = [] := List.length_eq_zero_iff.1 (by rw [← hvs.length, hz])
      refine turns_skip (fin (hcl.trans hnil) (by rw [← hcn, hnil]) (by simp [storeCells])) hH (Ext.refl _ _) (Kp.refl _ _)
    · have : Nat.beq l.length 0 = false := Bool.eq_false_iff.2 fun hh => hz (Nat.eq_of_beq_eq_true hh)
      rw [this] at hst
      obtain ⟨hsc, hst⟩ := cnd_inv (show cnd _ _ none = some h2 from hst)
      obtain ⟨w', r1, r2, r3, r4⟩ := storeC_sound (P := P) hH hm hs hst rfl (by omega) hvs (allScalar_of hsc hvs)
      exact turns_skip (fin hcl hcn r1) r2 r3 r4
  · have hev' : cnd (Nat.beq n 1) (cnd (getO (q y) L).scalar (opt (store1 h f g o (getO (q y) L)) none fun h' => some (Tn.mk undefA h' nx)) none) none = some (Tn.mk a h' nx') := by
      cases hh : getO (q y) L <;> rw [hh] at hev hna <;> first | exact hev | exact absurd rfl (hna _)
    obtain ⟨h1, hev⟩ := cnd_inv hev'
    have h1 := Nat.eq_of_beq_eq_true h1
    obtain ⟨h2, hev⟩ := cnd_inv hev
    obtain ⟨h3, hst, hev⟩ := opt_inv hev
    simp only [Option.some.injEq, Tn.mk.injEq] at hev
    obtain ⟨rfl, rfl, rfl⟩ := hev
    have hsc := scalar_not hy h2
    obtain ⟨w', r1, r2, r3, r4⟩ := store1_sound (P := P) hH hm hs hst hy (oneCell_of hsc)
    exact turns_skip (fin (vs := [ρ y]) (by rw [isScalar_cells hsc]) (by simp [h1]) r1) r2 r3 r4

end
end Go.Ev


namespace Go.Ev
set_option linter.unusedVariables false
set_option linter.unusedSectionVars false
set_option linter.unusedSimpArgs false
variable [Val]

/-! ## append, in the model -/
theorem growBy_le : ∀ (r c n : Nat), Builtin.growBy n r c + 768 ≤ 2 ^ r * (c + 768)
  | 0, c, n => by simp [Builtin.growBy]
  | r + 1, c, n => by
    unfold Builtin.growBy
    split
    · exact Nat.le_mul_of_pos_left _ (Nat.two_pow_pos _)
    · have h1 := growBy_le r (c + (c + 768) / 4) n
      have h2 : c + (c + 768) / 4 + 768 ≤ 2 * (c + 768) := by omega
      have h3 := Nat.mul_le_mul_left (2 ^ r) h2
      rw [Nat.pow_succ, Nat.mul_assoc]
      exact Nat.le_trans h1 h3
theorem nextcap_le {need c : Nat} (h : c < need) : Builtin.nextslicecap need c ≤ 16 * (need + 768) := by
  unfold Builtin.nextslicecap
  split
  · omega
  · split
    · omega
    · have := growBy_le 4 c need
      have h4 : (2 : Nat) ^ 4 = 16 := rfl
      rw [h4] at this
      omega

section
variable {P : Program} {w : World} {st xt el : TypeId} {i : TypeInfo} {ty : TypeId} {args : Array Value} {ats : Array TypeId}

theorem run_append_in {base : Option Addr} {sLen sCap n : Nat} {y : Value} {dx : TypeDesc} {vs : Array Value} {w' : World} (h0 : ats[0]? = some st) (h1 : ats[1]? = some xt) (ha : args[0]? = some (.slice base sLen sCap)) (hb : args[1]? = some y)
    (hu : P.underlying st = some (.slice el)) (hx : P.underlying xt = some dx) (hnx : ∀ k, dx ≠ .int k) (hi : P.info? el = some i)
    (hl : (Builtin.lenOf y).run P w = .ok n w) (hle : sLen + n ≤ sCap) (hf : (Builtin.firstCells i.size n y).run P w = .ok vs w)
    (hst : (match base with | some a => storeCells (a.add (sLen * i.size)) vs.toList | none => pure () : Sem Unit).run P w = .ok () w') :
    (Builtin.append_ ats ty args).run P w = .ok (.slice base (sLen + n) sCap) w' := by
  have hz : (dx matches .int _) = false := by cases dx <;> first | rfl | exact absurd rfl (hnx _)
  unfold Builtin.append_
  simp only [h0, h1, ha, hb, Sem.run_bind, run_underlying hu, run_underlying hx, Result.andThen_ok, sizeOf, typeInfo, run_program, hi, Sem.run_pure, hz, Bool.false_eq_true, if_false, hl, hle, if_true, Bool.not_false, hf]
  cases base with
  | none => simp only [Sem.run_pure, Result.ok.injEq] at hst ⊢; simp [hst]
  | some a => simp only [Sem.run_bind, hst, Result.andThen_ok, Sem.run_pure]

theorem run_append_new {base : Option Addr} {sLen sCap n : Nat} {y : Value} {dx : TypeDesc} {os vs : Array Value} {z : Value} (h0 : ats[0]? = some st) (h1 : ats[1]? = some xt) (ha : args[0]? = some (.slice base sLen sCap)) (hb : args[1]? = some y)
    (hu : P.underlying st = some (.slice el)) (hx : P.underlying xt = some dx) (hnx : ∀ k, dx ≠ .int k) (hi : P.info? el = some i) (hz : i.zero = some z)
    (hl : (Builtin.lenOf y).run P w = .ok n w) (hlt : sCap < sLen + n) (hs : sLen + n ≤ 1000000) (hby : i.bytes ≤ 1000000)
    (hf : (Builtin.firstCells i.size n y).run P w.drew = .ok vs w.drew) (ho : (Builtin.firstCells i.size sLen (.slice base sLen sCap)).run P w.drew = .ok os w.drew) :
    ∃ cp, sLen + n ≤ cp ∧ (Builtin.append_ ats ty args).run P w = .ok (.slice (some ⟨w.heap.size, 0, none⟩) (sLen + n) cp) (w.drew.alloc (.cells (os ++ vs ++ Builtin.zeroCells z.cells (cp - (sLen + n))) el)) := by
  have hzz : (dx matches .int _) = false := by cases dx <;> first | rfl | exact absurd rfl (hnx _)
  refine ⟨(Question.appendCap (sLen + n) sCap el).cut (w.tape w.drawn (.appendCap (sLen + n) sCap el)), by simp [Question.cut], ?_⟩
  have hforced : (Question.appendCap (sLen + n) sCap el).forced = false := rfl
  have c1 : ¬ (sLen + n ≤ sCap) := by omega
  have c2 : ¬ (((sLen + n : Nat) : Int) > IntKind.i64.max ∧ (false = true ∨ i.bytes = 0)) := by
    rintro ⟨h, _⟩
    have : IntKind.i64.max = 9223372036854775807 := rfl
    omega
  have c3 : ¬ (Builtin.nextslicecap (sLen + n) sCap * i.bytes > 2 ^ 48) := by
    have h1 := nextcap_le hlt
    have h2 := Nat.mul_le_mul h1 hby
    have h3 : (2 : Nat) ^ 48 = 281474976710656 := rfl
    omega
  unfold Builtin.append_
  simp only [h0, h1, ha, hb, Sem.run_bind, run_underlying hu, run_underlying hx, Result.andThen_ok, sizeOf, typeInfo, run_program, hi, Sem.run_pure, hzz, Bool.false_eq_true, if_false, hl, c1, Bool.not_false, if_true]
  have c2' : ¬ (((sLen : Int) + (n : Int)) > IntKind.i64.max ∧ (False ∨ i.bytes = 0)) := by simpa using c2
  simp only [Int.natCast_add, c2', if_false, c3, Sem.run_bind, Sem.run_pure, Result.andThen_ok, run_choose_drew, hforced, Bool.false_eq_true, run_askRoom, ho, hf, zeroValue, typeInfo, run_program, hi, hz, newRow, run_newObj_alloc]
  rfl

end

theorem vals_of {μ : Mu} {cs : Array Value} : ∀ (l : List AV) (x : Nat), (∀ j a, l[j]? = some a → ∃ v, cs[x + j]? = some v ∧ VR μ a v) → ∃ vs : List Value, VRs μ l vs ∧ ∀ j v, vs[j]? = some v → cs[x + j]? = some v
  | [], x, h => ⟨[], .nil, fun j v hj => by simp at hj⟩
  | a :: l, x, h => by
    obtain ⟨v, h1, h2⟩ := h 0 a rfl
    obtain ⟨vs, h3, h4⟩ := vals_of l (x + 1) (fun j b hj => by have := h (j + 1) b (by simpa using hj); rwa [show x + (j + 1) = x + 1 + j by omega] at this)
    refine ⟨v :: vs, .cons h2 h3, fun j u hj => ?_⟩
    cases j with
    | zero => simp at hj; subst hj; exact h1
    | succ j => have := h4 j u (by simpa using hj); rwa [show x + (j + 1) = x + 1 + j by omega]

theorem run_load_block {P : Program} {w : World} {b x : Nat} {cs : Array Value} {e : TypeId} {fz : Nat × Nat} {vs : List Value} (hb : w.heap[b]? = some (.cells cs e fz)) (hv : ∀ j v, vs[j]? = some v → cs[x + j]? = some v) :
    (loadCells ⟨b, x, none⟩ vs.length).run P w = .ok vs.toArray w := by
  refine run_loadCells_list (P := P) w ⟨b, x, none⟩ vs (fun j v hj => ?_)
  rw [add_zero_spot, cell?_of_block hb]
  exact hv j v hj

section
variable {E : Env} {P : Program} (hE : EnvOk E P) {B : Nat} {μ : Mu} {h : Hp} {w : World} (hH : HR B μ h w)

include hH in
/-- rows of a slice, loaded -/
theorem rows_load {f : Key} {g o b s n k sz dp ext gen : Nat} {ro : Bool} {c : Tr Row} {ls : List (List AV)} (ho : hget f h = .cells ro gen sz dp ext c) (hm : μ f g = some (b, s, n)) (hs : s ≤ o) (hmod : o % sz = 0)
    (hg : getRows c g k (o / sz) = some ls) : ls.length = k ∧ (∀ l ∈ ls, l.length = sz) ∧ ∃ cs e fz, w.heap[b]? = some (.cells cs e fz) ∧ ∃ vs : List Value, VRs μ (flat ls) vs ∧ vs.length = k * sz ∧ ∀ j v, vs[j]? = some v → cs[o - s + j]? = some v := by
  obtain ⟨hwf, hgen, hb⟩ := hH.cells ho
  obtain ⟨hB, hs0, cs, e, fz, hheap, hfz, hsz, hrows⟩ := hb g b s n hm
  obtain ⟨g1, g2⟩ := getRows_sound (sz := sz) hrows _ _ _ hg (start_le hs0 hs)
  obtain ⟨f1, f2⟩ := flat_rows ls _ g2
  have e1 : o / sz * sz + o % sz = o := Nat.div_add_mod' o sz
  obtain ⟨vs, v1, v2⟩ := vals_of (μ := μ) (cs := cs) (flat ls) (o - s) (fun j a hj => by
    obtain ⟨v, q1, q2⟩ := f2 j a hj
    exact ⟨v, by rw [← q1]; congr 1; omega, q2⟩)
  refine ⟨g1, fun l hl => ?_, cs, e, fz, hheap, vs, v1, by rw [← v1.length, f1, g1], v2⟩
  obtain ⟨i, hi⟩ := List.getElem?_of_mem hl
  exact (g2 i l hi).2.1

theorem flat_singles : ∀ (l : List AV), flat (l.map fun a => [a]) = l
  | [] => rfl
  | a :: l => by simp [flat, flat_singles l]

include hH in
theorem firstRows_sound {Y : AV} {y : Value} {sz k m : Nat} {rows : List (List AV)} (hy : VR μ Y y) (hl : lenA Y = some m) (hkm : k ≤ m) (hr : firstRows h sz k Y = some rows) :
    (∀ w', (Builtin.lenOf y).run P w' = .ok m w') ∧ rows.length = k ∧ (∀ l ∈ rows, l.length = sz) ∧ ∃ vs : List Value, VRs μ (flat rows) vs ∧ ∀ w', w'.heap = w.heap → (Builtin.firstCells sz k y).run P w' = .ok vs.toArray w' := by
  unfold lenA at hl
  unfold firstRows at hr
  split at hl
  · rename_i f g o len cap sz' ex
    cases hl
    simp only [VR] at hy
    obtain ⟨b, s, n, x, c, hm, rfl, h1, h2, h3, hpl⟩ := hy
    replace hr := cnd_inv hr
    have hz := Nat.eq_of_beq_eq_true hr.1
    subst hz
    replace hr := asCells_some hr.2
    obtain ⟨ro, gen, z, dp, ext, t, ho, hr⟩ := hr
    replace hr := cnd_inv hr
    have hz := Nat.eq_of_beq_eq_true hr.1
    subst hz
    replace hr := cnd_inv hr.2
    obtain ⟨hmod, hr⟩ := hr
    have hmod : o % z = 0 := Nat.eq_of_beq_eq_true hmod
    rcases hpl with ⟨hs, rfl, _⟩ | ⟨rfl, rfl⟩
    · obtain ⟨q1, q2, cs, e, fz, hheap, vs, q3, q4, q5⟩ := rows_load hH ho hm hs hmod hr
      refine ⟨fun w' => by simp [Builtin.lenOf], q1, q2, vs, q3, fun w' hw' => ?_⟩
      show (loadCells ⟨b, o - s, none⟩ (k * z)).run P w' = _
      rw [← q4]
      exact run_load_block (by rw [hw']; exact hheap) q5
    · have hk : k = 0 := by omega
      subst hk
      cases hr
      refine ⟨fun w' => by simp [Builtin.lenOf], rfl, by simp, [], .nil, fun w' hw' => ?_⟩
      show (loadCells ⟨b, x, none⟩ (0 * z)).run P w' = _
      rw [Nat.zero_mul]; rfl
  · cases hl
    simp only [VR] at hy
    subst hy
    cases hr
    have hk : k = 0 := by omega
    subst hk
    exact ⟨fun w' => by simp [Builtin.lenOf], rfl, by simp, [], .nil, fun w' hw' => by simp [Builtin.firstCells]⟩
  · rename_i str
    cases hl
    simp only [VR] at hy
    obtain ⟨bs, rfl, hb⟩ := hy
    replace hr := cnd_inv hr
    have hz := Nat.eq_of_beq_eq_true hr.1
    subst hz
    have hr2 := hr.2
    cases hr2
    have hlen : str.length = bs.size := by rw [← hb]; simp
    refine ⟨fun w' => by simp [Builtin.lenOf, hlen], by simp [byteCells_length]; omega, by simp, (bs.data.toList.take k).map (fun b => Value.int .u8 b.toNat), ?_, fun w' hw' => ?_⟩
    · rw [flat_singles]
      refine VRs.of_get (by simp [byteCells_length, hlen]) fun i a hi => ?_
      rw [byteCells_get] at hi
      rw [← hb, ← List.map_take, List.getElem?_map] at hi
      rw [List.getElem?_map]
      cases hd : (bs.data.toList.take k)[i]? with
      | none => rw [hd] at hi; cases hi
      | some u =>
        rw [hd] at hi
        simp only [Option.map_some, Option.some.injEq] at hi
        subst hi
        exact ⟨_, rfl, by simp only [VR]; rfl⟩
    · simp only [Builtin.firstCells, Sem.run_pure, Result.ok.injEq, and_true]
      congr 1
      apply Array.ext'
      simp
  · cases hl

end
end Go.Ev


namespace Go.Ev
set_option linter.unusedVariables false
set_option linter.unusedSectionVars false
set_option linter.unusedSimpArgs false
variable [Val]

theorem growTo_inv {n : Nat} {k : Nat → Tr Row → Option Tn} {r : Tn} : ∀ (fuel d : Nat) (c : Tr Row), Tr.Wf d c → growTo n fuel d c k = some r → ∃ d' c', Tr.Wf d' c' ∧ (∀ i, c'.get i = c.get i) ∧ n ≤ 2 ^ d' ∧ k d' c' = some r
  | 0, d, c, hw, h => by cases h
  | fuel + 1, d, c, hw, h => by
    unfold growTo at h
    rw [cnd_eq] at h
    split at h
    · rename_i hle; exact ⟨d, c, hw, fun _ => rfl, Nat.le_of_ble_eq_true hle, h⟩
    · obtain ⟨d', c', h1, h2, h3, h4⟩ := growTo_inv fuel (d + 1) c.grow (Tr.grow_wf d c hw) h
      exact ⟨d', c', h1, fun i => by rw [h2, Tr.get_grow d c hw], h3, h4⟩

theorem addRows_sound {dp gw : Nat} : ∀ (ls : List (List AV)) (c : Tr Row) (r : Nat), Tr.Wf dp c → r + ls.length ≤ 2 ^ dp →
    Tr.Wf dp (addRows dp gw c r ls) ∧ ∀ k, (addRows dp gw c r ls).get k = if r ≤ k ∧ k < r + ls.length then (ls[k - r]?).map (Row.mk · gw) else c.get k
  | [], c, r, hw, hle => ⟨hw, fun k => by rw [if_neg (by simp only [List.length_nil]; omega)]; rfl⟩
  | l :: ls, c, r, hw, hle => by
    simp only [List.length_cons] at hle
    obtain ⟨h1, h2⟩ := addRows_sound ls (c.set dp r (.mk l gw)) (r + 1) (Tr.set_wf dp c r _ hw) (by omega)
    refine ⟨h1, fun k => ?_⟩
    show (addRows dp gw (c.set dp r (.mk l gw)) (r + 1) ls).get k = _
    rw [h2]
    simp only [List.length_cons]
    by_cases hk : r + 1 ≤ k ∧ k < r + 1 + ls.length
    · rw [if_pos hk, if_pos (by omega), show k - r = (k - (r + 1)) + 1 by omega]; simp
    · rw [if_neg hk, Tr.get_set dp c r k _ hw (by omega)]
      by_cases hkr : k = r
      · subst hkr; rw [if_pos rfl, if_pos (by omega)]; simp
      · rw [if_neg hkr, if_neg (by omega)]

theorem getRows_get {g : Nat} {c : Tr Row} : ∀ (n r : Nat) (ls : List (List AV)), getRows c g n r = some ls → ls.length = n ∧ ∀ i l, ls[i]? = some l → ∃ gw, c.get (r + i) = some (.mk l gw) ∧ gw ≤ g
  | 0, r, ls, h => by cases h; exact ⟨rfl, fun i l hi => by simp at hi⟩
  | n + 1, r, ls, h => by
    unfold getRows at h
    split at h
    · rename_i l gw hr
      obtain ⟨hgw, h⟩ := cnd_inv h
      split at h
      · rename_i ls' hls
        cases h
        obtain ⟨h1, h2⟩ := getRows_get n (r + 1) ls' hls
        refine ⟨by simp [h1], fun i l' hi => ?_⟩
        cases i with
        | zero => simp at hi; subst hi; exact ⟨gw, hr, Nat.le_of_ble_eq_true hgw⟩
        | succ i => simp at hi; obtain ⟨g1, e1, e2⟩ := h2 i l' hi; exact ⟨g1, by rw [← e1]; congr 1; omega, e2⟩
      · cases h
    · cases h

theorem rowsGw_get : ∀ (ls : List (List AV)) (gw i : Nat) (l : List AV) (g : Nat), (rowsGw gw ls)[i]? = some (.mk l g) → ls[i]? = some l ∧ g = gw
  | [], gw, i, l, g, h => by simp [rowsGw] at h
  | x :: ls, gw, 0, l, g, h => by simp [rowsGw] at h; obtain ⟨rfl, rfl⟩ := h; simp
  | x :: ls, gw, i + 1, l, g, h => by simp only [rowsGw, List.getElem?_cons_succ] at h ⊢; exact rowsGw_get ls gw i l g h
theorem rowsGw_length : ∀ (ls : List (List AV)) (gw : Nat), (rowsGw gw ls).length = ls.length
  | [], _ => rfl
  | _ :: ls, gw => by simp [rowsGw, rowsGw_length ls]

theorem flat_append : ∀ (a b : List (List AV)), flat (a ++ b) = flat a ++ flat b
  | [], b => rfl
  | x :: a, b => by simp [flat, flat_append a b]

/-- a row among rows laid one behind the other from place x on -/
theorem row_at {μ : Mu} {sz s x r0 r : Nat} {ls : List (List AV)} {cs : Array Value} {l : List AV} (hlen : ∀ l ∈ ls, l.length = sz) (hc : ∀ j a, (flat ls)[j]? = some a → ∃ v, cs[x + j]? = some v ∧ VR μ a v)
    (hx : x + s = r0 * sz) (hr : r0 ≤ r) (hl : ls[r - r0]? = some l) : RowR μ cs s sz r l := by
  have hrr : r * sz = r0 * sz + (r - r0) * sz := by rw [← Nat.add_mul]; congr 1; omega
  refine ⟨by omega, hlen _ (List.mem_of_getElem? hl), fun j a hj => ?_⟩
  have hjl : j < sz := by have := (List.getElem?_eq_some_iff.1 hj).1; rw [hlen _ (List.mem_of_getElem? hl)] at this; exact this
  have hf := flat_get ls (r - r0) j l hlen hl hjl
  rw [hj] at hf
  obtain ⟨v, e1, e2⟩ := hc _ a hf
  exact ⟨v, by rw [← e1]; congr 1; omega, e2⟩

section
variable {E : Env} {P : Program} (hE : EnvOk E P) {B : Nat} {μ : Mu} {h : Hp} {w : World} (hH : HR B μ h w) {nx : Key} (hB : B ≤ w.heap.size)

include hH hB in
/-- rows that begin a family -/
theorem HR.fresh (hnx : (hget nx h).isNone = true) {w' : World} {cs : Array Value} {e : TypeId} {sz : Nat} {ls : List (List AV)} (hw : w'.heap = w.heap.push (.cells cs e (0, 0)))
    (hlen : ∀ l ∈ ls, l.length = sz) (hc : ∀ j a, (flat ls)[j]? = some a → ∃ v, cs[0 + j]? = some v ∧ VR μ a v) :
    HR B (μ.ins nx 0 (w.heap.size, 0, cs.size)) (hset nx (newRows sz ls) h) w' ∧ μ.le (μ.ins nx 0 (w.heap.size, 0, cs.size)) := by
  refine hH.alloc hnx hw (new_cells hH hnx hB hw (.inl rfl) (Tr.ofList_wf _ _) (fun r hr => ?_) (fun r l gw hg => ?_))
  · cases hg : (Tr.ofList (depthFor ls.length 25 0) (rowsGw 0 ls)).get r with
    | none => rfl
    | some y =>
      have := (List.getElem?_eq_some_iff.1 (Tr.ofList_some _ _ _ _ hg)).1
      rw [rowsGw_length] at this; omega
  · obtain ⟨h1, h2⟩ := rowsGw_get _ _ _ _ _ (Tr.ofList_some _ _ _ _ hg)
    refine ⟨h2, row_at (r0 := 0) (x := 0) hlen (fun j a hj => ?_) (by simp) (Nat.zero_le _) (by simpa using h1)⟩
    obtain ⟨v, e1, e2⟩ := hc j a hj
    exact ⟨v, e1, VR.mono (Mu.ins_le (hH.noneAt hnx 0) _) _ _ e2⟩

variable {f : Key} {gen sz dp ext : Nat} {c : Tr Row} {b s n : Nat}

include hH in
/-- a family goes on in its block -/
theorem HR.growIn (hns : gen + 1 ≠ strGen) (ho : hget f h = .cells false gen sz dp ext c) (hm : μ f gen = some (b, s, n)) {cs : Array Value} {e : TypeId} {fz : Nat × Nat} (hheap : w.heap[b]? = some (.cells cs e fz))
    {dp' : Nat} {c' : Tr Row} {new : List (List AV)} {vs : List Value} (hw' : Tr.Wf dp' c') (hlen : ∀ l ∈ new, l.length = sz) (hs : s ≤ ext * sz) (hroom : ext * sz - s + vs.length ≤ cs.size) (hv : VRs μ (flat new) vs)
    (hget' : ∀ k, c'.get k = if ext ≤ k ∧ k < ext + new.length then (new[k - ext]?).map (Row.mk · (gen + 1)) else c.get k) :
    HR B (μ.ins f (gen + 1) (b, s, n)) (hset f (.cells false (gen + 1) sz dp' (ext + new.length) c') h) (World.put w b (.cells (spliceA cs (ext * sz - s) vs) e fz)) ∧ μ.le (μ.ins f (gen + 1) (b, s, n)) := by
  obtain ⟨hwf, hgen, hblk⟩ := hH.cells ho
  have hbl := hH.lt _ _ _ _ _ hm
  have hle : μ.le (μ.ins f (gen + 1) (b, s, n)) := Mu.ins_le (hgen.1 _ (Nat.lt_succ_self _)) _
  have hvl : vs.length = new.length * sz := by rw [← hv.length, flat_length new hlen]
  have same : ∀ r l gw, c.get r = some (.mk l gw) → s ≤ r * sz → ∀ j, j < sz → (spliceA cs (ext * sz - s) vs)[r * sz + j - s]? = cs[r * sz + j - s]? := by
    intro r l gw hr hsr j hj
    rw [spliceA_get _ _ _ _ hroom, if_neg]
    rintro ⟨q1, q2⟩
    have hre : r < ext := Nat.lt_of_not_le fun hh => by rw [hwf.2 r hh] at hr; cases hr
    have := mul_le_of_lt (sz := sz) hre
    omega
  refine ⟨⟨?_, ?_, ?_, ?_⟩, hle⟩
  · intro f1 g1 b1 s1 m1 f2 g2 s2 m2 h1 h2
    have a1 : ∃ g, μ f1 g = some (b1, s1, m1) := by
      rcases Mu.ins_inv h1 with ⟨rfl, rfl, e1⟩ | k1
      · cases e1; exact ⟨gen, hm⟩
      · exact ⟨_, k1⟩
    have a2 : ∃ g, μ f2 g = some (b1, s2, m2) := by
      rcases Mu.ins_inv h2 with ⟨rfl, rfl, e1⟩ | k1
      · cases e1; exact ⟨gen, hm⟩
      · exact ⟨_, k1⟩
    obtain ⟨_, a1⟩ := a1
    obtain ⟨_, a2⟩ := a2
    exact hH.inj _ _ _ _ _ _ _ _ _ a1 a2
  · intro f1 g1 b1 s1 m1 h1
    simp only [World.put, Array.size_setIfInBounds]
    rcases Mu.ins_inv h1 with ⟨rfl, rfl, e1⟩ | k1
    · cases e1; exact hbl
    · exact hH.lt _ _ _ _ _ k1
  · intro f1
    by_cases hff : f = f1
    · subst hff
      rw [hget_hset]
      refine ⟨⟨hw', fun r hr => ?_⟩, ⟨fun g hg => ?_, fun r l gw hr => ?_⟩, ?_⟩
      · rw [hget', if_neg (by omega)]; exact hwf.2 r (by omega)
      · rw [Mu.ins_other _ (.inr (by omega))]; exact hgen.1 g (by omega)
      · rw [hget'] at hr
        split at hr
        · cases hn : new[r - ext]? with
          | none => rw [hn] at hr; cases hr
          | some l1 => rw [hn] at hr; simp only [Option.map_some, Option.some.injEq, Row.mk.injEq] at hr; omega
        · have := hgen.2 r l gw hr; omega
      · have main : ∀ g b1 s1 n1, μ f g = some (b1, s1, n1) → ∀ g', g ≤ g' → (g' ≤ gen → g' = g) → (g = gen ∨ g' = g) → (false = false → B ≤ b1) ∧ s1 % sz = 0 ∧ ∃ cs1 e1 fz1, (World.put w b (.cells (spliceA cs (ext * sz - s) vs) e fz)).heap[b1]? = some (.cells cs1 e1 fz1) ∧
            FzOk g' cs1 fz1 ∧ cs1.size = n1 ∧ ∀ r l gw, c'.get r = some (.mk l gw) → gw ≤ g' → s1 ≤ r * sz → RowR (μ.ins f (gen + 1) (b, s, n)) cs1 s1 sz r l := by
          intro g b1 s1 n1 hm1 g' hgg hge hor
          obtain ⟨a1, a2, cs1, e1, fz1, a3, a4, a5, a6⟩ := hblk g b1 s1 n1 hm1
          have hg : g ≤ gen := Nat.le_of_not_lt fun hlt => by rw [hgen.1 g hlt] at hm1; cases hm1
          have fzm : ∀ {cs2 : Array Value}, cs2.size = cs1.size → FzOk g' cs2 fz1 := fun hh => by
            rcases a4 with h0 | ⟨h0, h1⟩
            · exact .inl h0
            · exact .inr ⟨by omega, by rw [hh]; exact h1⟩
          by_cases hb : b1 = b
          · subst hb
            obtain ⟨_, rfl, rfl⟩ := hH.inj _ _ _ _ _ _ _ _ _ hm hm1
            rw [hheap] at a3
            simp only [Option.some.injEq, Obj.cells.injEq] at a3
            obtain ⟨rfl, rfl, rfl⟩ := a3
            refine ⟨a1, a2, _, _, _, put_get hbl, fzm (spliceA_size _ _ _), by rw [spliceA_size]; exact a5, ?_⟩
            intro r l gw g1 g2 g3
            rw [hget'] at g1
            split at g1
            · rename_i hin
              cases hn : new[r - ext]? with
              | none => rw [hn] at g1; cases g1
              | some l1 =>
                rw [hn] at g1
                simp only [Option.map_some, Option.some.injEq, Row.mk.injEq] at g1
                obtain ⟨rfl, rfl⟩ := g1
                refine (row_at (μ := μ) (r0 := ext) (x := ext * sz - s) hlen (fun j a hj => ?_) (by omega) hin.1 hn).mono hle
                obtain ⟨v, q1, q2⟩ := hv.get hj
                have hjl : j < vs.length := (List.getElem?_eq_some_iff.1 q1).1
                refine ⟨v, ?_, q2⟩
                rw [spliceA_get _ _ _ _ hroom, if_pos (by omega), ← q1]
                congr 1; omega
            · have hgw : gw ≤ gen := hgen.2 r l gw g1
              have hgwg : gw ≤ g := by
                rcases hor with h0 | h0
                · omega
                · omega
              obtain ⟨k1, k2, k3⟩ := a6 r l gw g1 hgwg g3
              refine ⟨k1, k2, fun j a hj => ?_⟩
              have hjl : j < sz := by have := (List.getElem?_eq_some_iff.1 hj).1; omega
              rw [same r l gw g1 g3 j hjl]
              obtain ⟨v, q1, q2⟩ := k3 j a hj
              exact ⟨v, q1, VR.mono hle _ _ q2⟩
          · have hgg2 : g' = g := by
              rcases hor with h0 | h0
              · subst h0
                rw [hm] at hm1
                simp only [Option.some.injEq, Prod.mk.injEq] at hm1
                exact absurd hm1.1.symm hb
              · exact h0
            subst hgg2
            refine ⟨a1, a2, cs1, e1, fz1, ?_, a4, a5, ?_⟩
            · simp only [World.put]; rw [Array.getElem?_setIfInBounds_ne (Ne.symm hb)]; exact a3
            · intro r l gw g1 g2 g3
              rw [hget'] at g1
              split at g1
              · cases hn : new[r - ext]? with
                | none => rw [hn] at g1; cases g1
                | some l1 =>
                  rw [hn] at g1
                  simp only [Option.map_some, Option.some.injEq, Row.mk.injEq] at g1
                  omega
              · exact (a6 r l gw g1 g2 g3).mono hle
        intro g b1 s1 n1 hm1
        rcases Mu.ins_inv hm1 with ⟨_, rfl, e1⟩ | k1
        · cases e1
          exact main gen b s n hm (gen + 1) (Nat.le_succ _) (fun hh => absurd hh (by omega)) (.inl rfl)
        · exact main g b1 s1 n1 k1 g (Nat.le_refl _) (fun _ => rfl) (.inr rfl)
    · rw [hget_hset_ne hff]
      refine OR.mono hle (fun g => Mu.ins_other _ (.inl hff) _) (fun g b1 s1 m1 hm1 => ?_) (hH.obj f1)
      have hne : b ≠ b1 := fun hb => by subst hb; exact hff (hH.inj _ _ _ _ _ _ _ _ _ hm hm1).1
      simp only [World.put]
      rw [Array.getElem?_setIfInBounds_ne hne]
  · intro f1 g1 g2 b1 s1 m1 s2 m2 h1 h2 hg
    rcases Mu.ins_inv h1 with ⟨i0, i1, e1⟩ | k1 <;> rcases Mu.ins_inv h2 with ⟨j0, i2, e2⟩ | k2
    · omega
    · cases e1
      subst i0
      exact hH.side _ gen g2 _ _ _ _ _ hm k2 (by omega)
    · cases e2
      subst j0
      have := hH.side _ g1 gen _ _ _ _ _ k1 hm hg
      omega
    · exact hH.side _ _ _ _ _ _ _ _ k1 k2 hg

include hH hB in
/-- a family goes on in a new block -/
theorem HR.growNew (ho : hget f h = .cells false gen sz dp ext c) (hm : μ f gen = some (b, s, n)) {w' : World} {cs : Array Value} {e : TypeId}
    {dp' : Nat} {c' : Tr Row} {o : Nat} {old new : List (List AV)} (hw : w'.heap = w.heap.push (.cells cs e (0, 0))) (hw' : Tr.Wf dp' c') (hlen : ∀ l ∈ old ++ new, l.length = sz) (hsz : 0 < sz) (ho0 : o % sz = 0)
    (hext : ext = o / sz + old.length) (hold : ∀ i l, old[i]? = some l → ∃ gw, c.get (o / sz + i) = some (.mk l gw))
    (hc : ∀ j a, (flat (old ++ new))[j]? = some a → ∃ v, cs[0 + j]? = some v ∧ VR μ a v)
    (hget' : ∀ k, c'.get k = if ext ≤ k ∧ k < ext + new.length then (new[k - ext]?).map (Row.mk · (gen + 1)) else c.get k) :
    HR B (μ.ins f (gen + 1) (w.heap.size, o, cs.size)) (hset f (.cells false (gen + 1) sz dp' (ext + new.length) c') h) w' ∧ μ.le (μ.ins f (gen + 1) (w.heap.size, o, cs.size)) := by
  obtain ⟨hwf, hgen, hblk⟩ := hH.cells ho
  have hbl := hH.lt _ _ _ _ _ hm
  have hle : μ.le (μ.ins f (gen + 1) (w.heap.size, o, cs.size)) := Mu.ins_le (hgen.1 _ (Nat.lt_succ_self _)) _
  have e1 : o / sz * sz + o % sz = o := Nat.div_add_mod' o sz
  refine ⟨⟨?_, ?_, ?_, ?_⟩, hle⟩
  · intro f1 g1 b1 s1 m1 f2 g2 s2 m2 h1 h2
    rcases Mu.ins_inv h1 with ⟨i1, _, e1⟩ | k1 <;> rcases Mu.ins_inv h2 with ⟨i2, _, e2⟩ | k2
    · cases e1; cases e2; exact ⟨i1.trans i2.symm, rfl, rfl⟩
    · cases e1; exact absurd (hH.lt _ _ _ _ _ k2) (Nat.lt_irrefl _)
    · cases e2; exact absurd (hH.lt _ _ _ _ _ k1) (Nat.lt_irrefl _)
    · exact hH.inj _ _ _ _ _ _ _ _ _ k1 k2
  · intro f1 g1 b1 s1 m1 h1
    rw [hw, Array.size_push]
    rcases Mu.ins_inv h1 with ⟨rfl, rfl, e1⟩ | k1
    · cases e1; omega
    · have := hH.lt _ _ _ _ _ k1; omega
  · intro f1
    by_cases hff : f = f1
    · subst hff
      rw [hget_hset]
      refine ⟨⟨hw', fun r hr => ?_⟩, ⟨fun g hg => ?_, fun r l gw hr => ?_⟩, ?_⟩
      · rw [hget', if_neg (by omega)]; exact hwf.2 r (by omega)
      · rw [Mu.ins_other _ (.inr (by omega))]; exact hgen.1 g (by omega)
      · rw [hget'] at hr
        split at hr
        · cases hn : new[r - ext]? with
          | none => rw [hn] at hr; cases hr
          | some l1 => rw [hn] at hr; simp only [Option.map_some, Option.some.injEq, Row.mk.injEq] at hr; omega
        · have := hgen.2 r l gw hr; omega
      · intro g b1 s1 n1 hm1
        rcases Mu.ins_inv hm1 with ⟨_, rfl, e2⟩ | k1
        · cases e2
          refine ⟨fun _ => hB, ho0, cs, e, (0, 0), by rw [hw]; simp, .inl rfl, rfl, ?_⟩
          intro r l gw g1 g2 g3
          have hr0 : o / sz ≤ r := by
            have : o / sz * sz ≤ r * sz := by omega
            exact Nat.le_of_mul_le_mul_right this hsz
          have key : (old ++ new)[r - o / sz]? = some l := by
            rw [hget'] at g1
            split at g1
            · rename_i hin
              cases hn : new[r - ext]? with
              | none => rw [hn] at g1; cases g1
              | some l1 =>
                rw [hn] at g1
                simp only [Option.map_some, Option.some.injEq, Row.mk.injEq] at g1
                obtain ⟨rfl, rfl⟩ := g1
                rw [List.getElem?_append_right (by omega), ← hn]
                congr 1; omega
            · rename_i hin
              have hre : r < ext := Nat.lt_of_not_le fun hh => by rw [hwf.2 r hh] at g1; cases g1
              have hi : r - o / sz < old.length := by omega
              obtain ⟨gw', q⟩ := hold (r - o / sz) _ (List.getElem?_eq_getElem hi)
              rw [show o / sz + (r - o / sz) = r by omega, g1] at q
              simp only [Option.some.injEq, Row.mk.injEq] at q
              rw [List.getElem?_append_left hi, List.getElem?_eq_getElem hi, q.1]
          refine (row_at (μ := μ) (r0 := o / sz) (x := 0) hlen hc (by omega) hr0 key).mono hle
        · obtain ⟨a1, a2, cs1, e1, fz1, a3, a4, a5, a6⟩ := hblk g b1 s1 n1 k1
          have hg : g ≤ gen := Nat.le_of_not_lt fun hlt => by rw [hgen.1 g hlt] at k1; cases k1
          refine ⟨a1, a2, cs1, e1, fz1, ?_, a4, a5, ?_⟩
          · rw [hw, Array.getElem?_push, if_neg (by have := hH.lt _ _ _ _ _ k1; omega)]; exact a3
          · intro r l gw g1 g2 g3
            rw [hget'] at g1
            split at g1
            · cases hn : new[r - ext]? with
              | none => rw [hn] at g1; cases g1
              | some l1 =>
                rw [hn] at g1
                simp only [Option.map_some, Option.some.injEq, Row.mk.injEq] at g1
                omega
            · exact (a6 r l gw g1 g2 g3).mono hle
    · rw [hget_hset_ne hff]
      refine OR.mono hle (fun g => Mu.ins_other _ (.inl hff) _) (fun g b1 s1 m1 hm1 => ?_) (hH.obj f1)
      rw [hw, Array.getElem?_push, if_neg (by have := hH.lt _ _ _ _ _ hm1; omega)]
  · intro f1 g1 g2 b s m s2 m2 h1 h2 hg
    rcases Mu.ins_inv h1 with ⟨_, i1, e1⟩ | k1 <;> rcases Mu.ins_inv h2 with ⟨_, i2, e2⟩ | k2
    · omega
    · cases e1; exact absurd (hH.lt _ _ _ _ _ k2) (Nat.lt_irrefl _)
    · cases e2; exact absurd (hH.lt _ _ _ _ _ k1) (Nat.lt_irrefl _)
    · exact hH.side _ _ _ _ _ _ _ _ k1 k2 hg

theorem rowsScalar_of {rows : List (List AV)} {vs : List Value} (hs : rowsScalar rows = true) (hv : VRs μ (flat rows) vs) : ∀ v ∈ vs, v.oneCell' = true := by
  have key : ∀ (rows : List (List AV)), rowsScalar rows = true → allScalar (flat rows) = true := by
    intro rows
    induction rows with
    | nil => intro _; rfl
    | cons l ls ih =>
      intro hh
      have hh : cnd (allScalar l) (rowsScalar ls) false = true := hh
      rw [cnd_eq] at hh
      split at hh
      · rename_i h1
        have app : ∀ (a b : List AV), allScalar a = true → allScalar b = true → allScalar (a ++ b) = true := by
          intro a
          induction a with
          | nil => intro b _ hb; exact hb
          | cons x a iha =>
            intro b ha hb
            have ha : cnd x.scalar (allScalar a) false = true := ha
            show cnd x.scalar (allScalar (a ++ b)) false = true
            rw [cnd_eq] at ha ⊢
            split at ha
            · rename_i hx; rw [if_pos hx]; exact iha b ha hb
            · cases ha
        exact app _ _ h1 (ih hh)
      · cases hh
  exact allScalar_of (key rows hs) hv

end
end Go.Ev


namespace Go.Ev
set_option linter.unusedVariables false
set_option linter.unusedSectionVars false
set_option linter.unusedSimpArgs false
variable [Val]

section
variable {E : Env} {P : Program} (hE : EnvOk E P) {B : Nat} {μ : Mu} {h : Hp} {w : World} (hH : HR B μ h w) {nx : Key} (hB : B ≤ w.heap.size)
  {L : Lo} {ρ : Operand → Value} {q : Operand → Opd} (hq : ∀ x, VR μ (getO (q x) L) (ρ x))
variable {d : Option Tmp} {ty : TypeId} {pos : String} {af : Array Edge} {gd : Option (Nat × Bool)} {a : AV} {h' : Hp} {nx' : Key}

theorem turns_val {o : Oper} {v : Value} {w' : World} {ν : Mu} (hrun : (execOp ρ o).run P w = .ok (.value v) w') (hv : VR ν a v) (hle : μ.le ν) (hh : HR B ν h' w') (he : Ext B w w') (hk : Kp h μ h' ν) : Turns P ρ B μ h w o a h' :=
  ⟨v, .value v, w', ν, hrun, rfl, hv, hle, hh, he, hk⟩

theorem fresh_inv {o : Ob} {v : AV} {r : Tn} (hf : fresh h nx o v = some r) : (hget nx h).isNone = true ∧ r = .mk v (hset nx o h) nx.next := by
  obtain ⟨h1, h2⟩ := cnd_inv hf
  cases h2; exact ⟨h1, rfl⟩

theorem HR.world {w' : World} (hH : HR B μ h w) (hw : w'.heap = w.heap) : HR B μ h w' := by
  refine ⟨hH.inj, fun f g b s n hm => by rw [hw]; exact hH.lt f g b s n hm, fun f => OR.mono (Mu.le_refl μ) (fun _ => rfl) (fun g b s n hm => by rw [hw]) (hH.obj f), hH.side⟩

include hE hH hB hq in
theorem e_append {xs : Array Operand} {ats : Array TypeId} {st xt el : TypeId} {ts : List TypeId} {x y : Operand} {l : List Operand} {dx : TypeDesc} {k : Nat} {z : AV} (hx : xs.toList = x :: y :: l) (ht : ats.toList = st :: xt :: ts)
    (hu : E.und st = some (.slice el)) (hxt : E.und xt = some dx) (hn : ∀ kk, dx ≠ .int kk) (hsz : E.size el = some (k + 1)) (hz : zeroA E el = some z)
    (hz1 : Nat.beq z.cells.length (k + 1) = true) (hby : Nat.ble (bytesO E el) 1000000 = true) (hev : xAppend (k + 1) (q x) (q y) h nx L = some (Tn.mk a h' nx')) :
    Turns P ρ B μ h w ⟨d, .call { callee := .builtin .append, args := xs, argTypes := ats }, ty, pos, af, gd⟩ a h' := by
  have hz1 := Nat.eq_of_beq_eq_true hz1
  have hby := Nat.le_of_ble_eq_true hby
  obtain ⟨i, zv, hi, hiz, hzv⟩ := hE.zero hz
  have hisz : i.size = k + 1 := by obtain ⟨i', h1, h2⟩ := hE.size hsz; rw [hi] at h1; cases h1; exact h2
  have hiby : i.bytes ≤ 1000000 := by
    unfold bytesO at hby
    split at hby
    · rename_i i' hi'
      have := hE.ts _ _ hi'
      rw [hi] at this; cases this; exact hby
    · omega
  have hzs : zv.cells.size = k + 1 := by
    have := (ofV_cells (μ := μ) zv).length
    rw [← hzv, hz1] at this; simpa using this.symm
  have a0 : (xs.map ρ)[0]? = some (ρ x) := by rw [← Array.getElem?_toList]; simp [hx]
  have a1 : (xs.map ρ)[1]? = some (ρ y) := by rw [← Array.getElem?_toList]; simp [hx]
  have t0 : ats[0]? = some st := by rw [← Array.getElem?_toList]; simp [ht]
  have t1 : ats[1]? = some xt := by rw [← Array.getElem?_toList]; simp [ht]
  have up := hE.und hu
  have uxp := hE.und hxt
  obtain ⟨n, hl, hev⟩ := opt_inv hev
  obtain ⟨new, hnew, hev⟩ := opt_inv hev
  obtain ⟨hlen, hnl, hnr, vs, hvs, hfc⟩ := firstRows_sound (P := P) hH (hq y) hl (Nat.le_refl _) hnew
  have runval : ∀ {v : Value} {w' : World}, (Builtin.append_ ats ty (xs.map ρ)).run P w = .ok v w' → (execOp ρ ⟨d, .call { callee := .builtin .append, args := xs, argTypes := ats }, ty, pos, af, gd⟩).run P w = .ok (.value v) w' :=
    fun hr => run_builtin rfl hr
  have hvl : vs.length = n * (k + 1) := by rw [← hvs.length, flat_length new hnr, hnl]
  -- a new block
  have newBlock : ∀ {base : Option Addr} {sLen sCap : Nat} {os : List Value} {old : List (List AV)}, ρ x = .slice base sLen sCap → sCap < sLen + n → sLen + n ≤ 1000000 → (∀ w', w'.heap = w.heap → (Builtin.firstCells i.size sLen (.slice base sLen sCap)).run P w' = .ok os.toArray w') →
      VRs μ (flat old) os → (∀ l ∈ old, l.length = k + 1) → old.length = sLen → ∃ cs cp, sLen + n ≤ cp ∧ cs.size = cp * (k + 1) ∧
        (Builtin.append_ ats ty (xs.map ρ)).run P w = .ok (.slice (some ⟨w.heap.size, 0, none⟩) (sLen + n) cp) (w.drew.alloc (.cells cs el)) ∧ ∀ j b, (flat (old ++ new))[j]? = some b → ∃ v, cs[0 + j]? = some v ∧ VR μ b v := by
    intro base sLen sCap os old hxx hlt hle hfo hvo holdr hol
    obtain ⟨cp, hcp, hrun⟩ := run_append_new (P := P) (w := w) (ty := ty) (ats := ats) (args := xs.map ρ) (base := base) (sLen := sLen) (sCap := sCap) (n := n) (y := ρ y) (os := os.toArray) (vs := vs.toArray) t0 t1 (by rw [a0, hxx]) a1 up uxp hn hi hiz (hlen w) hlt hle hiby
      (by rw [hisz]; exact hfc w.drew rfl) (hfo w.drew rfl)
    refine ⟨_, cp, hcp, ?_, hrun, ?_⟩
    · have hol' : os.length = sLen * (k + 1) := by rw [← hvo.length, flat_length old holdr, hol]
      simp only [Array.size_append, List.size_toArray, Builtin.zeroCells, Array.size_map, Array.size_range, hzs, hvl, hol']
      rw [← Nat.add_mul, ← Nat.add_mul]; congr 1; omega
    · intro j b hj
      rw [flat_append] at hj
      obtain ⟨v, e1, e2⟩ := (hvo.append hvs).get hj
      refine ⟨v, ?_, e2⟩
      rw [Nat.zero_add]
      have hjl : j < (os ++ vs).length := (List.getElem?_eq_some_iff.1 e1).1
      rw [Array.getElem?_append_left (by simpa using hjl)]
      rw [List.append_toArray, List.getElem?_toArray]
      exact e1
  have extNew : ∀ {o : Obj}, Ext B w (w.drew.alloc o) := fun {o} => ⟨rfl, rfl, rfl, by show w.heap.size ≤ (w.heap.push o).size; simp, fun kk hkk => by
    show (w.heap.push o)[kk]? = _
    rw [Array.getElem?_push, if_neg (by omega)]⟩
  have hxv := hq x
  split at hev
  · rename_i e
    rw [e] at hxv; simp only [VR] at hxv
    by_cases hn0 : n = 0
    · subst hn0
      cases hev
      refine turns_val (runval (run_append_in (P := P) (w := w) t0 t1 (by rw [a0, hxv]) a1 up uxp hn hi (hlen w) (Nat.le_refl _) (by rw [hisz]; exact hfc w rfl) (w' := w) (by simp))) ?_ (Mu.le_refl _) hH (Ext.refl _ _) (Kp.refl _ _)
      simp only [VR]
    · have hb : Nat.beq n 0 = false := Bool.eq_false_iff.2 fun hh => hn0 (Nat.eq_of_beq_eq_true hh)
      rw [hb] at hev
      obtain ⟨hle, hev⟩ := cnd_inv (show cnd _ _ none = some _ from hev)
      have hle := Nat.le_of_ble_eq_true hle
      obtain ⟨hfree, hev⟩ := fresh_inv hev
      cases hev
      obtain ⟨cs, cp, hcp, hcs, hrun, hc⟩ := newBlock (base := none) (sLen := 0) (sCap := 0) (os := []) (old := []) hxv (by omega) (by omega) (fun w' _ => by simp [Builtin.firstCells]) .nil (by simp) rfl
      obtain ⟨e1, e2⟩ := HR.fresh (hH.world (w' := w.drew) rfl) hB hfree (w' := w.drew.alloc (.cells cs el)) rfl hnr (by simpa using hc)
      refine turns_val (runval hrun) ?_ e2 e1 extNew (Kp.new hfree)
      rw [Nat.zero_add]
      exact vr_newSl (w := w.drew) (Nat.le_refl _) (by omega) (fun hh => by cases hh) (by omega)
  · rename_i f g o len cap sz' ex e
    rw [e] at hxv; simp only [VR] at hxv
    obtain ⟨b, s, m, xo, c, hm, hxv, v1, v2, v3, hpl⟩ := hxv
    obtain ⟨hs', hev⟩ := cnd_inv hev
    have hs' := Nat.eq_of_beq_eq_true hs'
    subst hs'
    by_cases hn0 : n = 0
    · subst hn0
      cases hev
      have hvs0 : vs = [] := List.length_eq_zero_iff.1 (by rw [hvl]; simp)
      refine turns_val (runval (run_append_in (P := P) (w := w) t0 t1 (by rw [a0, hxv]) a1 up uxp hn hi (hlen w) (by omega) (by rw [hisz]; exact hfc w rfl) (w' := w) (by rw [hvs0]; simp [storeCells]))) ?_ (Mu.le_refl _) hH (Ext.refl _ _) (Kp.refl _ _)
      simp only [VR]
      exact ⟨b, s, m, xo, c, hm, rfl, v1, v2, v3, hpl⟩
    · have hb : Nat.beq n 0 = false := Bool.eq_false_iff.2 fun hh => hn0 (Nat.eq_of_beq_eq_true hh)
      rw [hb] at hev
      replace hev : appendSl (k + 1) f g o len cap ex new n h nx = some (Tn.mk a h' nx') := hev
      obtain ⟨hle, hev⟩ := cnd_inv hev
      have hle : len + n ≤ 1000000 := Nat.le_of_ble_eq_true hle
      obtain ⟨ro, gen, zz, dp, ext, t, ho, hev⟩ := asCells_some hev
      obtain ⟨hzz, hev⟩ := cnd_inv hev
      have hzz := Nat.eq_of_beq_eq_true hzz
      subst hzz
      obtain ⟨hmod, hev⟩ := cnd_inv hev
      have hmod : o % (k + 1) = 0 := Nat.eq_of_beq_eq_true hmod
      have e1 : o / (k + 1) * (k + 1) + o % (k + 1) = o := Nat.div_add_mod' o (k + 1)
      obtain ⟨hwf, hgen, hblk⟩ := hH.cells ho
      obtain ⟨hBb, hs0, cs, ce, fz, hheap, hfz, hcsz, hrows⟩ := hblk g b s m hm
      -- in place
      have inPlace : s ≤ o → xo = o - s → xo + c * (k + 1) ≤ m → len + n ≤ c → rowsScalar new = true →
          xo + len * (k + 1) + vs.length ≤ cs.size ∧ (Builtin.append_ ats ty (xs.map ρ)).run P w = .ok (.slice (some ⟨b, xo, none⟩) (len + n) c) (World.put w b (.cells (spliceA cs (xo + len * (k + 1)) vs) ce fz)) := by
        intro p1 p2 p3 p4 p5
        have hroom : xo + len * (k + 1) + vs.length ≤ cs.size := by
          rw [hcsz, hvl]
          have : (len + n) * (k + 1) ≤ c * (k + 1) := Nat.mul_le_mul_right _ p4
          rw [Nat.add_mul] at this; omega
        refine ⟨hroom, run_append_in (P := P) (w := w) t0 t1 (by rw [a0, hxv]) a1 up uxp hn hi (hlen w) p4 (by rw [hisz]; exact hfc w rfl) ?_⟩
        show (storeCells ((⟨b, xo, none⟩ : Addr).add (len * i.size)) vs).run P w = _
        rw [add_zero_spot, hisz]
        exact run_storeCells' vs 0 (xo + len * (k + 1)) cs w hheap hfz (by omega) (rowsScalar_of p5 hvs)
      by_cases hcap : Nat.ble (Nat.add len n) cap = true
      · rw [hcap] at hev
        obtain ⟨hro, hev⟩ := cnd_inv' (show cnd ro none _ = some _ from hev)
        subst hro
        obtain ⟨hg, hev⟩ := cnd_inv hev
        have hg := Nat.eq_of_beq_eq_true hg
        subst hg
        obtain ⟨hsc, hev⟩ := cnd_inv hev
        obtain ⟨c', hov, hev⟩ := opt_inv hev
        cases hev
        have hcap : len + n ≤ cap := Nat.le_of_ble_eq_true hcap
        rcases hpl with ⟨p1, p2, p3⟩ | ⟨p1, p2⟩
        · obtain ⟨q1, q2⟩ := inPlace p1 p2 p3 (by omega) hsc
          have hsr : s ≤ (o / (k + 1) + len) * (k + 1) := by rw [Nat.add_mul]; omega
          obtain ⟨r1, r2⟩ := overRows_HR hH ho hm hsr hov hnr (by omega) (Nat.succ_pos k) hvs hheap
          have hpos : (o / (k + 1) + len) * (k + 1) - s = xo + len * (k + 1) := by rw [Nat.add_mul]; omega
          rw [hpos] at r2
          refine turns_val (runval q2) ?_ (Mu.le_refl _) r2 (Ext.put (hBb rfl)) (Kp.set rfl)
          simp only [VR]
          exact ⟨b, s, m, xo, c, hm, rfl, hcap, v2, v3, .inl ⟨p1, p2, p3⟩⟩
        · omega
      · have hcap' := Bool.eq_false_iff.2 hcap
        rw [hcap'] at hev
        have hgt : cap < len + n := Nat.lt_of_not_le fun hh => hcap (Nat.ble_eq_true_of_le hh)
        -- the rows that are there
        have olds : ∀ {old : List (List AV)}, getRows t g len (o / (k + 1)) = some old → old.length = len ∧ (∀ l ∈ old, l.length = k + 1) ∧ ∃ os : List Value, VRs μ (flat old) os ∧ ∀ w', w'.heap = w.heap → (Builtin.firstCells i.size len (.slice (some ⟨b, xo, none⟩) len c)).run P w' = .ok os.toArray w' := by
          intro old hold
          rcases hpl with ⟨p1, p2, p3⟩ | ⟨p1, p2⟩
          · obtain ⟨q1, q2, cs', ce', fz', q3, os, q4, q5, q6⟩ := rows_load hH ho hm p1 hmod hold
            refine ⟨q1, q2, os, q4, fun w' hw' => ?_⟩
            show (loadCells ⟨b, xo, none⟩ (len * i.size)).run P w' = _
            rw [hisz, ← q5, p2]
            exact run_load_block (by rw [hw']; exact q3) q6
          · subst p1
            cases hold
            refine ⟨rfl, by simp, [], .nil, fun w' _ => ?_⟩
            show (loadCells ⟨b, xo, none⟩ (0 * i.size)).run P w' = _
            rw [Nat.zero_mul]; rfl
        cases hex : ex with
        | true =>
          rw [hex] at hev
          obtain ⟨old, hold, hev⟩ := opt_inv (show opt (getRows t g len (o / (k + 1))) none _ = some _ from hev)
          obtain ⟨hfree, hev⟩ := fresh_inv hev
          cases hev
          have hcc := v3 hex
          obtain ⟨o1, o2, os, o3, o4⟩ := olds hold
          obtain ⟨cs2, cp, hcp, hcs2, hrun, hc⟩ := newBlock hxv (by omega) hle o4 o3 o2 o1
          obtain ⟨f1, f2⟩ := HR.fresh (hH.world (w' := w.drew) rfl) hB hfree (w' := w.drew.alloc (.cells cs2 el)) (ls := old ++ new) rfl
            (fun l hl => by rcases List.mem_append.1 hl with h1 | h1; exact o2 l h1; exact hnr l h1) hc
          refine turns_val (runval hrun) ?_ f2 f1 extNew (Kp.new hfree)
          exact vr_newSl (w := w.drew) (Nat.le_refl _) hcp (fun hh => by cases hh) (by omega)
        | false =>
          rw [hex] at hev
          obtain ⟨hro, hev⟩ := cnd_inv' (show cnd ro none _ = some _ from hev)
          subst hro
          obtain ⟨hg, hev⟩ := cnd_inv hev
          have hg := Nat.eq_of_beq_eq_true hg
          subst hg
          obtain ⟨hext, hev⟩ := cnd_inv hev
          have hext : ext = o / (k + 1) + len := Nat.eq_of_beq_eq_true hext
          obtain ⟨hsc0, hev⟩ := cnd_inv hev
          obtain ⟨hns, hsc⟩ : g + 1 ≠ strGen ∧ rowsScalar new = true := by
            cases hb : Nat.beq (Nat.succ g) strGen with
            | true => rw [hb] at hsc0; cases hsc0
            | false => rw [hb] at hsc0; exact ⟨fun e => (by rw [Nat.succ_eq_add_one, e, Nat.beq_refl] at hb; cases hb), hsc0⟩
          obtain ⟨old, hold, hev⟩ := opt_inv hev
          obtain ⟨dp', cg, g1, g2, g3, hev⟩ := growTo_inv _ _ _ hwf.1 hev
          cases hev
          have g3 : ext + n ≤ 2 ^ dp' := g3
          obtain ⟨o1, o2, os, o3, o4⟩ := olds hold
          obtain ⟨w1, w2⟩ := addRows_sound (gw := g + 1) new cg ext g1 (by rw [hnl]; exact g3)
          have w2' : ∀ kk, (addRows dp' (g + 1) cg ext new).get kk = if ext ≤ kk ∧ kk < ext + new.length then (new[kk - ext]?).map (Row.mk · (g + 1)) else t.get kk := fun kk => by rw [w2, g2]
          by_cases hin : len + n ≤ c
          · rcases hpl with ⟨p1, p2, p3⟩ | ⟨p1, p2⟩
            · obtain ⟨q1, q2⟩ := inPlace p1 p2 p3 hin hsc
              have hpos : ext * (k + 1) - s = xo + len * (k + 1) := by rw [hext, Nat.add_mul]; omega
              obtain ⟨r1, r2⟩ := HR.growIn hH hns ho hm hheap w1 hnr (by rw [hext, Nat.add_mul]; omega) (by rw [hpos]; exact q1) hvs w2'
              rw [hpos, hnl] at r1
              refine turns_val (runval q2) ?_ r2 r1 (Ext.put (hBb rfl)) (Kp.setIns rfl hm)
              simp only [VR]
              exact ⟨b, s, m, xo, c, Mu.ins_same _ _ _ _, rfl, Nat.le_refl _, hin, (fun hh => by cases hh), .inl ⟨p1, p2, p3⟩⟩
            · omega
          · obtain ⟨cs2, cp, hcp, hcs2, hrun, hc⟩ := newBlock hxv (by omega) hle o4 o3 o2 o1
            obtain ⟨f1, f2⟩ := HR.growNew (hH.world (w' := w.drew) rfl) hB ho hm (w' := w.drew.alloc (.cells cs2 el)) (old := old) (new := new) (o := o) rfl w1
              (fun l hl => by rcases List.mem_append.1 hl with h1 | h1; exact o2 l h1; exact hnr l h1) (Nat.succ_pos k) hmod (by rw [hext, o1])
              (fun ii l hl => by obtain ⟨gw, z1, _⟩ := (getRows_get len _ old hold).2 ii l hl; exact ⟨gw, z1⟩) hc w2'
            rw [hnl] at f1
            refine turns_val (runval hrun) ?_ f2 f1 extNew (Kp.setIns rfl hm)
            simp only [VR]
            exact ⟨w.heap.size, o, cs2.size, 0, cp, Mu.ins_same _ _ _ _, rfl, Nat.le_refl _, hcp, (fun hh => by cases hh), .inl ⟨Nat.le_refl _, by omega, by omega⟩⟩
  · cases hev

end
end Go.Ev


namespace Go.Ev
set_option linter.unusedVariables false
set_option linter.unusedSectionVars false
set_option linter.unusedSimpArgs false
variable [Val]

mutual
theorem aveq_eq : ∀ (a b : AV), aveq a b = true → a = b
  | .any, b, h => by cases b <;> first | rfl | cases h
  | .bool x, b, h => by
    cases b <;> first | (cases h; done) | skip
    rename_i y; cases x <;> cases y <;> first | rfl | cases h
  | .int k n, b, h => by
    cases b <;> first | (cases h; done) | skip
    rename_i l m
    have h : cnd (keq k l) (ieq n m) false = true := h
    rw [cnd_eq] at h
    split at h
    · rename_i hk
      rw [keq_true hk]
      rw [ieq_eq] at h
      rw [of_decide_eq_true h]
    · cases h
  | .str s, b, h => by
    cases b <;> first | (cases h; done) | skip
    rename_i t
    have h : leq s t = true := h
    rw [leq_eq] at h
    rw [of_decide_eq_true h]
  | .ptr0, b, h => by cases b <;> first | rfl | cases h
  | .ptr f g o, b, h => by
    cases b <;> first | (cases h; done) | skip
    rename_i f' g' o'
    have h : cnd (Key.beq f f') (cnd (Nat.beq g g') (Nat.beq o o') false) false = true := h
    simp only [cnd_eq] at h
    split at h
    · rename_i h1
      split at h
      · rename_i h2
        rw [Key.beq_eq h1, Nat.eq_of_beq_eq_true h2, Nat.eq_of_beq_eq_true h]
      · cases h
    · cases h
  | .slice0, b, h => by cases b <;> first | rfl | cases h
  | .slice f g o l c s x, b, h => by
    cases b <;> first | (cases h; done) | skip
    rename_i f' g' o' l' c' s' x'
    have h : cnd (Key.beq f f') (cnd (Nat.beq g g') (cnd (Nat.beq o o') (cnd (Nat.beq l l') (cnd (Nat.beq c c') (cnd (Nat.beq s s') (cnd x x' (bnot x')) false) false) false) false) false) false = true := h
    simp only [cnd_eq] at h
    split at h <;> first | (cases h; done) | skip
    rename_i h1
    split at h <;> first | (cases h; done) | skip
    rename_i h2
    split at h <;> first | (cases h; done) | skip
    rename_i h3
    split at h <;> first | (cases h; done) | skip
    rename_i h4
    split at h <;> first | (cases h; done) | skip
    rename_i h5
    split at h <;> first | (cases h; done) | skip
    rename_i h6
    rw [Key.beq_eq h1, Nat.eq_of_beq_eq_true h2, Nat.eq_of_beq_eq_true h3, Nat.eq_of_beq_eq_true h4, Nat.eq_of_beq_eq_true h5, Nat.eq_of_beq_eq_true h6]
    cases x <;> cases x' <;> first | rfl | simp [bnot_eq] at h
  | .map0, b, h => by cases b <;> first | rfl | cases h
  | .map a, b, h => by
    cases b <;> first | (cases h; done) | skip
    rename_i b
    rw [Key.beq_eq (show Key.beq a b = true from h)]
  | .nilFunc, b, h => by cases b <;> first | rfl | cases h
  | .func fn a c, b, h => by
    cases b <;> first | (cases fn <;> cases h; done) | skip
    all_goals first
      | (cases fn with
        | yield l => cases h
        | fn F => cases F <;> cases h; done)
      | skip
    rename_i fn' a' c'
    cases fn with
    | yield l => cases h
    | fn F =>
      cases F <;> first | (cases h; done) | skip
      rename_i f
      cases fn' with
      | yield l => cases h
      | fn F' =>
        cases F' <;> first | (cases h; done) | skip
        rename_i f'
        have h : cnd (Nat.beq f f') (cnd (aveqs a a') (aveqs c c') false) false = true := h
        simp only [cnd_eq] at h
        split at h <;> first | (cases h; done) | skip
        rename_i h1
        split at h <;> first | (cases h; done) | skip
        rename_i h2
        rw [Nat.eq_of_beq_eq_true h1, aveqs_eq _ _ h2, aveqs_eq _ _ h]
  | .iface t v, b, h => by
    cases b <;> first | (cases h; done) | skip
    rename_i u w
    have h : cnd (Nat.beq t u) (aveq v w) false = true := h
    simp only [cnd_eq] at h
    split at h <;> first | (cases h; done) | skip
    rename_i h1
    rw [Nat.eq_of_beq_eq_true h1, aveq_eq _ _ h]
  | .nilIface, b, h => by cases b <;> first | rfl | cases h
  | .agg a, b, h => by
    cases b <;> first | (cases h; done) | skip
    rename_i b
    rw [aveqs_eq a b h]
  | .tuple a, b, h => by
    cases b <;> first | (cases h; done) | skip
    rename_i b
    rw [aveqs_eq a b h]
  | .top, b, h => by cases h
  | .ub, b, h => by cases h
  | .rng k lo hi, b, h => by
    cases b <;> first | (cases h; done) | skip
    rename_i l lo' hi'
    have h : cnd (keq k l) (cnd (ieq lo lo') (ieq hi hi') false) false = true := h
    simp only [cnd_eq] at h
    split at h <;> first | (cases h; done) | skip
    rename_i h1
    split at h <;> first | (cases h; done) | skip
    rename_i h2
    rw [ieq_eq] at h2 h
    rw [keq_true h1, of_decide_eq_true h2, of_decide_eq_true h]
  | .md k m r, b, h => by
    cases b <;> first | (cases h; done) | skip
    rename_i l m' r'
    have h : cnd (keq k l) (cnd (Nat.beq m m') (Nat.beq r r') false) false = true := h
    simp only [cnd_eq] at h
    split at h <;> first | (cases h; done) | skip
    rename_i h1
    split at h <;> first | (cases h; done) | skip
    rename_i h2
    rw [keq_true h1, Nat.eq_of_beq_eq_true h2, Nat.eq_of_beq_eq_true h]
  | .sx k f c lo hi, b, h => by
    cases b <;> first | (cases h; done) | skip
    rename_i l f' c' lo' hi'
    have h : cnd (keq k l) (cnd (Key.beq f f') (cnd (ieq c c') (cnd (ieq lo lo') (ieq hi hi') false) false) false) false = true := h
    simp only [cnd_eq] at h
    split at h <;> first | (cases h; done) | skip
    rename_i h1
    split at h <;> first | (cases h; done) | skip
    rename_i h2
    split at h <;> first | (cases h; done) | skip
    rename_i h3
    split at h <;> first | (cases h; done) | skip
    rename_i h4
    rw [ieq_eq] at h3 h4 h
    rw [keq_true h1, Key.beq_eq h2, of_decide_eq_true h3, of_decide_eq_true h4, of_decide_eq_true h]
  | .le _ _ _, b, h => by cases h
  | .eqv _ _ _, b, h => by cases h
  | .stx a, b, h => by
    cases b <;> first | (cases h; done) | skip
    rename_i b
    rw [aveqs_eq a b h]
  | .sl _ _, b, h => by cases h
theorem aveqs_eq : ∀ (a b : List AV), aveqs a b = true → a = b
  | [], b, h => by cases b <;> first | rfl | cases h
  | x :: a, b, h => by
    cases b with
    | nil => cases h
    | cons y b =>
      have h : cnd (aveq x y) (aveqs a b) false = true := h
      simp only [cnd_eq] at h
      split at h <;> first | (cases h; done) | skip
      rename_i h1
      rw [aveq_eq _ _ h1, aveqs_eq _ _ h]
end

theorem detC_bits {μ : Mu} {X : AV} {u v : Value} (n : Nat) (hd : detC X = true) (hu : VR μ X u) (hv : VR μ X v) : Instr.sameBits n u v = true := by
  cases X <;> first | (cases hd; done) | skip
  · simp only [VR] at hu hv; subst hu hv; simp [Instr.sameBits]
  · simp only [VR] at hu hv; subst hu hv; simp [Instr.sameBits]
  · simp only [VR] at hu hv
    obtain ⟨x, rfl, h1⟩ := hu
    obtain ⟨y, rfl, h2⟩ := hv
    have : x = y := by
      cases x; cases y
      simp only [ByteArray.mk.injEq]
      apply Array.toList_inj.1
      exact map_inj (h1.trans h2.symm)
    subst this
    simp only [Instr.sameBits]
    show (x.data == x.data) = true
    simp
  · simp only [VR] at hu hv; subst hu hv; simp [Instr.sameBits]
  · simp only [VR] at hu hv
    obtain ⟨b, s, m, h1, _, rfl⟩ := hu
    obtain ⟨b', s', m', h2, _, rfl⟩ := hv
    rw [h1] at h2
    cases h2
    simp [Instr.sameBits]

theorem keyBits_sound {μ : Mu} {X Y : AV} {u v : Value} (hk : keyBits X Y = true) (hu : VR μ X u) (hv : VR μ Y v) : Instr.sameBits 10000 v u = true := by
  replace hk : cnd (aveq X Y) (cnd (detC X) true (asAgg X false allDet)) false = true := hk
  simp only [cnd_eq] at hk
  split at hk <;> first | (cases hk; done) | skip
  rename_i h1
  have := aveq_eq _ _ h1
  subst this
  split at hk
  · rename_i h2; exact detC_bits _ h2 hv hu
  · rcases (by cases X <;> first | exact .inl ⟨_, rfl⟩ | exact .inr (fun l h => by cases h) : (∃ l, X = .agg l) ∨ ∀ l, X ≠ .agg l) with ⟨l, rfl⟩ | hn
    · have hk : allDet l = true := hk
      simp only [VR] at hu hv
      obtain ⟨us, rfl, hu⟩ := hu
      obtain ⟨vs, rfl, hv⟩ := hv
      have key : ∀ (l : List AV) (us vs : List Value), allDet l = true → VRs μ l us → VRs μ l vs → us.length = vs.length ∧ ((vs.zip us).all fun (x, y) => Instr.sameBits 9999 x y) = true := by
        intro l
        induction l with
        | nil => intro us vs _ h1 h2; rw [h1.nil_inv, h2.nil_inv]; simp
        | cons a l ih =>
          intro us vs hd h1 h2
          obtain ⟨u, us, rfl, h1, h1'⟩ := h1.cons_inv
          obtain ⟨v, vs, rfl, h2, h2'⟩ := h2.cons_inv
          have hd : cnd (detC a) (allDet l) false = true := hd
          simp only [cnd_eq] at hd
          split at hd <;> first | (cases hd; done) | skip
          rename_i hd1
          obtain ⟨e1, e2⟩ := ih us vs hd h1' h2'
          refine ⟨by simp [e1], ?_⟩
          simp only [List.zip_cons_cons, List.all_cons, Bool.and_eq_true]
          exact ⟨detC_bits 9999 hd1 h2 h1, e2⟩
      obtain ⟨e1, e2⟩ := key l us.toList vs.toList hk hu hv
      show (vs.size == us.size && _) = true
      simp only [Bool.and_eq_true, beq_iff_eq]
      exact ⟨by simpa using e1.symm, e2⟩
    · exfalso
      have : asAgg X false allDet = false := by cases X <;> first | rfl | exact absurd rfl (hn _)
      rw [this] at hk; cases hk

section
variable {μ : Mu}
theorem EnsR.append : ∀ {es fs : List En} {xs ys : List MapEntry}, EnsR μ es xs → EnsR μ fs ys → EnsR μ (es ++ fs) (xs ++ ys)
  | [], fs, xs, ys, h, k => by simp only [EnsR] at h; subst h; exact k
  | e :: es, fs, xs, ys, h, k => by
    simp only [EnsR] at h
    obtain ⟨x, r, rfl, h1, h2⟩ := h
    show EnsR μ (e :: (es ++ fs)) (x :: (r ++ ys))
    simp only [EnsR]
    exact ⟨x, _, rfl, h1, h2.append k⟩
theorem EnsR.one {e : En} {x : MapEntry} (h : EnR μ e x) : EnsR μ [e] [x] := by
  simp only [EnsR]; exact ⟨x, [], rfl, h, rfl⟩
theorem EnsR.set : ∀ {es : List En} {xs : List MapEntry} (i : Nat) {e : En} {x : MapEntry}, EnsR μ es xs → EnR μ e x → EnsR μ (es.set i e) (xs.set i x)
  | [], xs, i, e, x, h, k => by simp only [EnsR] at h; subst h; simp [EnsR]
  | a :: es, xs, 0, e, x, h, k => by
    simp only [EnsR] at h
    obtain ⟨y, r, rfl, h1, h2⟩ := h
    simp only [List.set_cons_zero, EnsR]; exact ⟨x, r, rfl, k, h2⟩
  | a :: es, xs, i + 1, e, x, h, k => by
    simp only [EnsR] at h
    obtain ⟨y, r, rfl, h1, h2⟩ := h
    simp only [List.set_cons_succ, EnsR]; exact ⟨y, _, rfl, h1, h2.set i k⟩
theorem EnsR.erase : ∀ {es : List En} {xs : List MapEntry} (i : Nat), EnsR μ es xs → EnsR μ (es.eraseIdx i) (xs.eraseIdx i)
  | [], xs, i, h => by simp only [EnsR] at h; subst h; simp [EnsR]
  | a :: es, xs, 0, h => by
    simp only [EnsR] at h
    obtain ⟨y, r, rfl, h1, h2⟩ := h
    simpa using h2
  | a :: es, xs, i + 1, h => by
    simp only [EnsR] at h
    obtain ⟨y, r, rfl, h1, h2⟩ := h
    simp only [List.eraseIdx_cons_succ, EnsR]; exact ⟨y, _, rfl, h1, h2.erase i⟩
end
end Go.Ev


namespace Go.Ev
set_option linter.unusedVariables false
set_option linter.unusedSectionVars false
set_option linter.unusedSimpArgs false
variable [Val]

theorem lenA_sound {P : Program} {μ : Mu} {X : AV} {v : Value} {n : Nat} (hx : VR μ X v) (hl : lenA X = some n) : ∀ w', (Builtin.lenOf v).run P w' = .ok n w' := by
  intro w'
  unfold lenA at hl
  split at hl
  · cases hl; simp only [VR] at hx; obtain ⟨b, s, m, x, c, _, rfl, _⟩ := hx; simp [Builtin.lenOf]
  · cases hl; simp only [VR] at hx; subst hx; simp [Builtin.lenOf]
  · cases hl; simp only [VR] at hx; obtain ⟨b, rfl, hb⟩ := hx; simp only [Builtin.lenOf, Sem.run_pure]; congr 1; rw [← hb]; simp
  · cases hl

section
variable {E : Env} {P : Program} (hE : EnvOk E P) {B : Nat} {μ : Mu} {h : Hp} {w : World} (hH : HR B μ h w) {nx : Key} (hB : B ≤ w.heap.size)
  {L : Lo} {ρ : Operand → Value} {q : Operand → Opd} (hq : ∀ x, VR μ (getO (q x) L) (ρ x))
variable {d : Option Tmp} {ty : TypeId} {pos : String} {af : Array Edge} {gd : Option (Nat × Bool)} {a : AV} {h' : Hp} {nx' : Key}

include hE hH hq in
theorem e_copy {xs : Array Operand} {ats : Array TypeId} {st el : TypeId} {ts : List TypeId} {x y : Operand} {l : List Operand} {k : Nat} (hx : xs.toList = x :: y :: l) (ht : ats.toList = st :: ts)
    (hu : E.und st = some (.slice el)) (hsz : E.size el = some (k + 1)) (hev : xCopy (k + 1) (q x) (q y) h nx L = some (Tn.mk a h' nx')) :
    Turns P ρ B μ h w ⟨d, .call { callee := .builtin .copy, args := xs, argTypes := ats }, ty, pos, af, gd⟩ a h' := by
  have a0 : (xs.map ρ)[0]? = some (ρ x) := by rw [← Array.getElem?_toList]; simp [hx]
  have a1 : (xs.map ρ)[1]? = some (ρ y) := by rw [← Array.getElem?_toList]; simp [hx]
  have t0 : ats[0]? = some st := by rw [← Array.getElem?_toList]; simp [ht]
  obtain ⟨m, hm1, hev⟩ := opt_inv hev
  obtain ⟨n, hn1, hev⟩ := opt_inv hev
  obtain ⟨rows, hrows, hev⟩ := opt_inv hev
  obtain ⟨hlen, hnl, hnr, vs, hvs, hfc⟩ := firstRows_sound (P := P) hH (hq y) hn1 (Nat.min_le_left _ _) hrows
  have hvl : vs.length = Nat.min n m * (k + 1) := by rw [← hvs.length, flat_length rows hnr, hnl]
  have runs : ∀ {base : Option Addr} {c : Nat} {w' : World}, ρ x = .slice base m c → (match base with | some a => storeCells a vs | none => pure () : Sem Unit).run P w = .ok () w' →
      (execOp ρ ⟨d, .call { callee := .builtin .copy, args := xs, argTypes := ats }, ty, pos, af, gd⟩).run P w = .ok (.value (.int .i64 ((Nat.min n m : Nat) : Int))) w' := by
    intro base c w' hxx hst
    refine run_builtin (s := Builtin.copy_ ats ty (xs.map ρ)) rfl ?_
    rw [hxx] at a0
    unfold Builtin.copy_
    simp only [t0, a0, a1, Sem.run_bind, hE.runUnd hu, Result.andThen_ok, Sem.run_pure, hlen, hE.runSize hsz, hfc w rfl]
    cases base with
    | none => simp only [Sem.run_pure, Result.ok.injEq, true_and] at hst; subst hst; simp [goInt]
    | some ad => simp only [Sem.run_bind, hst, Result.andThen_ok, Sem.run_pure, goInt]
  have hxv := hq x
  by_cases hk0 : Nat.min n m = 0
  · have hb : Nat.beq (Nat.min n m) 0 = true := by rw [hk0]; rfl
    rw [hb] at hev
    cases hev
    have hv0 : vs = [] := List.length_eq_zero_iff.1 (by rw [hvl, hk0]; simp)
    have hsl : ∃ base c, ρ x = .slice base m c := by
      unfold lenS at hm1
      split at hm1
      · rename_i e; cases hm1; rw [e] at hxv; simp only [VR] at hxv; obtain ⟨b, s, q1, xo, c, _, hxv, _⟩ := hxv; exact ⟨_, _, hxv⟩
      · rename_i e; cases hm1; rw [e] at hxv; simp only [VR] at hxv; exact ⟨_, _, hxv⟩
      · cases hm1
    obtain ⟨base, c, hxx⟩ := hsl
    refine turns_val (runs (w' := w) hxx (by rw [hv0]; cases base <;> simp [storeCells])) ?_ (Mu.le_refl _) hH (Ext.refl _ _) (Kp.refl _ _)
    rw [hk0]; simp only [VR]; rfl
  · have hb : Nat.beq (Nat.min n m) 0 = false := Bool.eq_false_iff.2 fun hh => hk0 (Nat.eq_of_beq_eq_true hh)
    rw [hb] at hev
    simp only [cnd_false] at hev
    split at hev
    · rename_i f g o ln cp sz' ex e
      rw [e] at hxv hm1; simp only [VR] at hxv
      cases hm1
      obtain ⟨b, s, mm, xo, c, hm, hxv, v1, v2, v3, hpl⟩ := hxv
      replace hev := cnd_inv hev
      have hs' := Nat.eq_of_beq_eq_true hev.1
      subst hs'
      replace hev := asCells_some hev.2
      obtain ⟨ro, gen, zz, dp, ext, t, ho, hev⟩ := hev
      replace hev := cnd_inv' hev
      obtain ⟨hro, hev⟩ := hev
      subst hro
      replace hev := cnd_inv hev
      have hg := Nat.eq_of_beq_eq_true hev.1
      subst hg
      replace hev := cnd_inv hev.2
      have hzz := Nat.eq_of_beq_eq_true hev.1
      subst hzz
      replace hev := cnd_inv hev.2
      obtain ⟨hmod, hev⟩ := hev
      have hmod : o % (k + 1) = 0 := Nat.eq_of_beq_eq_true hmod
      obtain ⟨hsc, hev⟩ := cnd_inv hev
      obtain ⟨c', hov, hev⟩ := opt_inv hev
      cases hev
      have e1 : o / (k + 1) * (k + 1) + o % (k + 1) = o := Nat.div_add_mod' o (k + 1)
      obtain ⟨hwf, hgen, hblk⟩ := hH.cells ho
      obtain ⟨hBb, hs0, cs, ce, fz, hheap, hfz, hcsz, hrws⟩ := hblk g b s mm hm
      rcases hpl with ⟨p1, p2, p3⟩ | ⟨p1, p2⟩
      · have hrp : 0 < rows.length := by rw [hnl]; exact Nat.pos_of_ne_zero hk0
        obtain ⟨r1, r2⟩ := overRows_HR hH ho hm (start_le hs0 p1) hov hnr hrp (Nat.succ_pos k) hvs hheap
        have hpos : o / (k + 1) * (k + 1) - s = xo := by omega
        rw [hpos] at r1 r2
        subst p2
        refine turns_val (runs hxv (run_storeCells' vs 0 (o - s) cs w hheap hfz (by omega) (rowsScalar_of hsc hvs))) ?_ (Mu.le_refl _) r2 (Ext.put (hBb rfl)) (Kp.set rfl)
        simp only [VR]; rfl
      · exfalso
        apply hk0
        rw [p1]; exact Nat.min_zero n
    · cases hev

/-! ## maps -/
include hH in
theorem HR.mapTurn {f : Key} {es : List En} {clock : Nat} (ho : hget f h = .map es clock) {b s n : Nat} (hm : μ f 0 = some (b, s, n)) {es' : List En} {xs' : Array MapEntry} {clock' : Nat} (hR : EnsR μ es' xs'.toList) :
    HR B μ (hset f (.map es' clock') h) (World.put w b (.map xs' clock')) ∧ Ext B w (World.put w b (.map xs' clock')) := by
  have hO := hH.obj f
  rw [ho] at hO
  obtain ⟨h1, h2⟩ := hO
  obtain ⟨hb, _⟩ := h2 b s n hm
  refine ⟨hH.turn hm rfl ⟨h1, fun b1 s1 n1 hm1 => ?_⟩, Ext.put hb⟩
  rw [hm] at hm1
  simp only [Option.some.injEq, Prod.mk.injEq] at hm1
  obtain ⟨rfl, rfl, rfl⟩ := hm1
  exact ⟨hb, xs', put_get (hH.lt _ _ _ _ _ hm), hR⟩

theorem kTy_inv {t kt : TypeId} {el : TypeId} {X : AV} {es : List En} {r : Option (Nat × En)} (hu : E.und t = some (.map kt el)) (hf : findK E (kTy E t) X es = some r) : kTy E t = tyOf E 8 kt ∧ keyTy (tyOf E 8 kt) = true := by
  unfold kTy at hf ⊢
  rw [hu] at hf ⊢
  simp only at hf ⊢
  cases hk : keyTy (tyOf E 8 kt) with
  | true => exact ⟨rfl, rfl⟩
  | false =>
    rw [hk] at hf
    obtain ⟨h1, _⟩ := cnd_inv hf
    cases h1
theorem kTy_und {t : TypeId} {X : AV} {es : List En} {r : Option (Nat × En)} (hf : findK E (kTy E t) X es = some r) : ∃ kt el, E.und t = some (.map kt el) := by
  unfold kTy at hf
  split at hf
  · rename_i kt el hu; exact ⟨kt, el, hu⟩
  · obtain ⟨h1, _⟩ := cnd_inv hf; cases h1

include hE hH hq in
theorem e_mapUp {t : TypeId} {m k v : Operand} {ins : Bool} (hev : xMapUp E (kTy E t) (q m) (q k) (q v) h nx L = some (Tn.mk a h' nx')) :
    Turns P ρ B μ h w ⟨d, (if ins then .insert t m k v else .mapUpdate t m k v), ty, pos, af, gd⟩ a h' := by
  obtain ⟨f, hfm, hev⟩ : ∃ f, getO (q m) L = .map f ∧ _ := asMap_some hev
  obtain ⟨b, s, n, hm, hx⟩ := q_map hq hfm
  obtain ⟨es, clock, ho, hev⟩ := asMapO_some hev
  obtain ⟨r, hf, hev⟩ := opt_inv hev
  obtain ⟨kt, el, hu⟩ := kTy_und hf
  obtain ⟨hkt, hk⟩ := kTy_inv hu hf
  rw [hkt] at hf
  obtain ⟨hBb, xs, hxs, hR⟩ := hH.mapOb ho hm
  obtain ⟨r', g1, g2⟩ := findKey_sound hE hH (hq k) hR hf
  have g0 := checkK hE (w := w) false hk (hq k) hf
  have runs : ∀ {w' : World}, (Instr.mapUpdate t (ρ m) (ρ k) (ρ v)).run P w = .ok () w' → (execOp ρ ⟨d, (if ins then .insert t m k v else .mapUpdate t m k v), ty, pos, af, gd⟩).run P w = .ok .skip w' := by
    intro w' hr
    cases ins <;> exact run_unit hr
  cases r with
  | none =>
    cases hev
    simp only [FoundR] at g2; subst g2
    obtain ⟨z1, z2⟩ := hH.mapTurn ho hm (es' := es ++ [.mk (getO (q k) L) (getO (q v) L) clock]) (xs' := xs.push { key := ρ k, val := ρ v, born := clock }) (clock' := clock + 1) (by
      rw [Array.toList_push]; exact hR.append (.one ⟨hq k, hq v, rfl⟩))
    refine turns_skip (runs ?_) z1 z2 (Kp.set rfl)
    rw [hx]
    simp only [Instr.mapUpdate, Sem.run_bind, hE.runUnd hu, Result.andThen_ok, MapKept.run_getObj_map hxs, g0, g1, MapKept.run_setObj_map _ hxs]
    rfl
  | some p =>
    obtain ⟨i, e⟩ := p
    obtain ⟨hbits, hev⟩ := cnd_inv (show cnd _ _ none = some _ from hev)
    cases hev
    obtain ⟨y, _, g3, g4, g5, rfl⟩ := g2
    have hyi : xs[i]? = some y := by rw [← Array.getElem?_toList]; simpa using g4
    have hsb := keyBits_sound hbits (hq k) g5.1
    obtain ⟨z1, z2⟩ := hH.mapTurn ho hm (es' := es.set i (.mk (getO (q k) L) (getO (q v) L) e.b)) (xs' := xs.modify i fun e => { e with key := ρ k, val := ρ v }) (clock' := clock) (by
      have : (xs.modify i fun e => { e with key := ρ k, val := ρ v }).toList = xs.toList.set i { key := ρ k, val := ρ v, born := y.born } := by
        apply List.ext_getElem?
        intro j
        rw [Array.getElem?_toList, Array.getElem?_modify, List.getElem?_set]
        by_cases hj : i = j
        · subst hj
          obtain ⟨hlt, hye⟩ := Array.getElem?_eq_some_iff.1 hyi
          simp [hye, hlt]
        · simp [hj]
      rw [this]; exact hR.set i ⟨hq k, hq v, g5.2.2⟩)
    refine turns_skip (runs ?_) z1 z2 (Kp.set rfl)
    rw [hx]
    simp only [Instr.mapUpdate, Sem.run_bind, hE.runUnd hu, Result.andThen_ok, MapKept.run_getObj_map hxs, g0, g1, hyi, Option.map_some, Option.getD_some, Instr.keyThatStays, hsb, if_true, Sem.run_pure, MapKept.run_setObj_map _ hxs]
    rfl


include hE hH hq in
theorem e_mapEn {t kt el : TypeId} {m k : Operand} {z : AV} (hu : E.und t = some (.map kt el)) (hz : zeroA E el = some z) (hev : xMapEn E (kTy E t) z (q m) (q k) h nx L = some (Tn.mk a h' nx')) :
    Turns P ρ B μ h w ⟨d, .mapEntry t m k, ty, pos, af, gd⟩ a h' := by
  obtain ⟨f, hfm, hev⟩ : ∃ f, getO (q m) L = .map f ∧ _ := asMap_some hev
  obtain ⟨b, s, n, hm, hx⟩ := q_map hq hfm
  obtain ⟨es, clock, ho, hev⟩ := asMapO_some hev
  obtain ⟨r, hf, hev⟩ := opt_inv hev
  obtain ⟨hkt, hk⟩ := kTy_inv hu hf
  rw [hkt] at hf
  obtain ⟨hBb, xs, hxs, hR⟩ := hH.mapOb ho hm
  obtain ⟨r', g1, g2⟩ := findKey_sound hE hH (hq k) hR hf
  have g0 := checkK hE (w := w) false hk (hq k) hf
  obtain ⟨zv, hzv, rfl⟩ := hE.runZero hz w
  have runs : ∀ {v : Value} {w' : World}, (Instr.mapEntry t (ρ m) (ρ k)).run P w = .ok v w' → (execOp ρ ⟨d, .mapEntry t m k, ty, pos, af, gd⟩).run P w = .ok (.value v) w' := fun hr => run_val hr
  cases r with
  | none =>
    cases hev
    simp only [FoundR] at g2; subst g2
    obtain ⟨z1, z2⟩ := hH.mapTurn ho hm (es' := es ++ [.mk (getO (q k) L) (ofV zv) clock]) (xs' := xs.push { key := ρ k, val := zv, born := clock }) (clock' := clock + 1) (by
      rw [Array.toList_push]; exact hR.append (.one ⟨hq k, ofV_sound μ zv, rfl⟩))
    refine turns_val (v := .tuple #[zv, goInt clock]) (runs ?_) ?_ (Mu.le_refl _) z1 z2 (Kp.set rfl)
    · rw [hx]
      simp only [Instr.mapEntry, Sem.run_bind, hE.runUnd hu, Result.andThen_ok, MapKept.run_getObj_map hxs, g0, g1, hzv, MapKept.run_setObj_map _ hxs, Sem.run_pure]
      rfl
    · simp only [VR]; exact ⟨_, rfl, .cons (ofV_sound μ zv) (.cons (by simp only [VR]; rfl) .nil)⟩
  | some p =>
    obtain ⟨i, e⟩ := p
    obtain ⟨hbits, hev⟩ := cnd_inv (show cnd _ _ none = some _ from hev)
    cases hev
    obtain ⟨y, _, g3, g4, g5, rfl⟩ := g2
    have hyi : xs[i]? = some y := by rw [← Array.getElem?_toList]; simpa using g4
    have hsb := keyBits_sound hbits (hq k) g5.1
    obtain ⟨z1, z2⟩ := hH.mapTurn ho hm (es' := es.set i (.mk (getO (q k) L) e.v e.b)) (xs' := xs.modify i fun e => { e with key := ρ k }) (clock' := clock) (by
      have : (xs.modify i fun e => { e with key := ρ k }).toList = xs.toList.set i { key := ρ k, val := y.val, born := y.born } := by
        apply List.ext_getElem?
        intro j
        rw [Array.getElem?_toList, Array.getElem?_modify, List.getElem?_set]
        by_cases hj : i = j
        · subst hj
          obtain ⟨hlt, hye⟩ := Array.getElem?_eq_some_iff.1 hyi
          simp [hye, hlt]
        · simp [hj]
      rw [this]; exact hR.set i ⟨hq k, g5.2.1, g5.2.2⟩)
    refine turns_val (v := .tuple #[y.val, goInt y.born]) (runs ?_) ?_ (Mu.le_refl _) z1 z2 (Kp.set rfl)
    · rw [hx]
      simp only [Instr.mapEntry, Sem.run_bind, hE.runUnd hu, Result.andThen_ok, MapKept.run_getObj_map hxs, g0, g1, hyi, Option.map_some, Option.getD_some, Instr.keyThatStays, hsb, if_true, Sem.run_pure, MapKept.run_setObj_map _ hxs]
      rfl
    · simp only [VR]; exact ⟨_, rfl, .cons g5.2.1 (.cons (by simp only [VR, goInt]; rw [← g5.2.2]; rfl) .nil)⟩

theorem setE_sound {b : Nat} {X : AV} {v : Value} (hv : VR μ X v) : ∀ (es : List En) (xs : List MapEntry) (l : List En), EnsR μ es xs → setE b X es = some l →
    ∃ i x, xs.findIdx? (fun e => (e.born : Int) == (b : Int)) = some i ∧ xs[i]? = some x ∧ EnsR μ l (xs.set i { x with val := v })
  | [], xs, l, hes, hs => by cases hs
  | .mk x y c :: es, xs, l, hes, hs => by
    simp only [EnsR] at hes
    obtain ⟨e, r, rfl, h1, h2⟩ := hes
    unfold setE at hs
    rw [cnd_eq] at hs
    split at hs
    · rename_i hb
      cases hs
      have hb := Nat.eq_of_beq_eq_true hb
      have hborn : e.born = c := h1.2.2.symm
      refine ⟨0, e, ?_, rfl, ?_⟩
      · rw [List.findIdx?_cons, if_pos]; simp [hborn, hb]
      · simp only [List.set_cons_zero, EnsR]
        exact ⟨_, r, rfl, ⟨h1.1, hv, h1.2.2⟩, h2⟩
    · rename_i hb
      split at hs
      · rename_i l' hl
        cases hs
        obtain ⟨i, x', g1, g2, g3⟩ := setE_sound hv es r l' h2 hl
        have hborn : e.born = c := h1.2.2.symm
        refine ⟨i + 1, x', ?_, by simpa using g2, ?_⟩
        · rw [List.findIdx?_cons, if_neg, g1]
          · rfl
          · simp only [hborn, beq_iff_eq]
            intro hh
            have : b = c := by omega
            rw [this] at hb; simp at hb
        · simp only [List.set_cons_succ, EnsR]
          exact ⟨e, _, rfl, h1, g3⟩
      · cases hs

include hE hH hq in
theorem e_enStore {t : TypeId} {m s v : Operand} (hev : xEnStore (q m) (q s) (q v) h nx L = some (Tn.mk a h' nx')) : Turns P ρ B μ h w ⟨d, .entryStore t m s v, ty, pos, af, gd⟩ a h' := by
  obtain ⟨f, hfm, hev⟩ : ∃ f, getO (q m) L = .map f ∧ _ := asMap_some hev
  obtain ⟨b, st, n, hm, hx⟩ := q_map hq hfm
  obtain ⟨kk, i0, hs, hev⟩ := idx_q hq hev
  obtain ⟨es, clock, ho, hev⟩ := asMapO_some hev
  obtain ⟨l, hl, hev⟩ := opt_inv hev
  cases hev
  obtain ⟨hBb, xs, hxs, hR⟩ := hH.mapOb ho hm
  obtain ⟨i, y, g1, g2, g3⟩ := setE_sound (hq v) es xs.toList l hR hl
  have hyi : xs[i]? = some y := by rw [← Array.getElem?_toList]; exact g2
  obtain ⟨z1, z2⟩ := hH.mapTurn ho hm (es' := l) (xs' := xs.modify i fun e => { e with val := ρ v }) (clock' := clock) (by
    have : (xs.modify i fun e => { e with val := ρ v }).toList = xs.toList.set i { y with val := ρ v } := by
      apply List.ext_getElem?
      intro j
      rw [Array.getElem?_toList, Array.getElem?_modify, List.getElem?_set]
      by_cases hj : i = j
      · subst hj
        obtain ⟨hlt, hye⟩ := Array.getElem?_eq_some_iff.1 hyi
        simp [hye, hlt]
      · simp [hj]
    rw [this]; exact g3)
  refine turns_skip (run_unit (s := Instr.entryStore t (ρ m) (ρ s) (ρ v)) ?_) z1 z2 (Kp.set rfl)
  rw [hx, hs]
  have hfi : xs.findIdx? (fun e => (e.born : Int) == (i0 : Int)) = some i := by obtain ⟨xl⟩ := xs; rw [List.findIdx?_toArray]; exact g1
  simp only [Instr.entryStore, Sem.run_bind, Result.andThen_ok, MapKept.run_getObj_map hxs, Go.asInt, asIntOf, Sem.run_pure, hfi, MapKept.run_setObj_map _ hxs]
  rfl

include hE hH hq in
theorem e_del {t : TypeId} {mv kv : AV} {m k : Value} (hm' : VR μ mv m) (hk' : VR μ kv k) {xs : Array Value} {ats : Array TypeId} (a0 : xs[0]? = some m) (a1 : xs[1]? = some k) (t0 : ats[0]? = some t)
    (hev : delM E (kTy E t) mv kv h nx = some (Tn.mk a h' nx')) : a = undefA ∧ ∃ w', (Builtin.delete_ ats ty xs).run P w = .ok (.tuple #[]) w' ∧ HR B μ h' w' ∧ Ext B w w' ∧ Kp h μ h' μ := by
  unfold delM at hev
  split at hev
  · obtain ⟨r, hf, hev⟩ := opt_inv hev
    cases hev
    simp only [VR] at hm'
    obtain ⟨kt, el, hu⟩ := kTy_und hf
    obtain ⟨hkt, hk⟩ := kTy_inv hu hf
    rw [hkt] at hf
    have g0 := checkK hE (w := w) true hk hk' hf
    refine ⟨rfl, w, ?_, hH, Ext.refl _ _, Kp.refl _ _⟩
    subst hm'
    simp only [Builtin.delete_, t0, a0, a1, Sem.run_bind, hE.runUnd hu, Result.andThen_ok, g0, Sem.run_pure]
  · rename_i f
    simp only [VR] at hm'
    obtain ⟨b, s, n, hm, rfl⟩ := hm'
    obtain ⟨es, clock, ho, hev⟩ := asMapO_some hev
    obtain ⟨r, hf, hev⟩ := opt_inv hev
    obtain ⟨kt, el, hu⟩ := kTy_und hf
    obtain ⟨hkt, hk⟩ := kTy_inv hu hf
    rw [hkt] at hf
    obtain ⟨hBb, xs', hxs, hR⟩ := hH.mapOb ho hm
    obtain ⟨r', g1, g2⟩ := findKey_sound hE hH hk' hR hf
    have g0 := checkK hE (w := w) xs'.isEmpty hk hk' hf
    cases r with
    | none =>
      cases hev
      simp only [FoundR] at g2; subst g2
      obtain ⟨z1, z2⟩ := hH.mapTurn ho hm (es' := es) (xs' := xs') (clock' := clock) hR
      refine ⟨rfl, World.put w b (.map xs' clock), ?_, ?_, z2, Kp.refl _ _⟩
      · simp only [Builtin.delete_, t0, a0, a1, Sem.run_bind, hE.runUnd hu, Result.andThen_ok, MapKept.run_getObj_map hxs, g0, g1, MapKept.run_setObj_map _ hxs, Sem.run_pure]
        rfl
      · refine hH.world ?_
        obtain ⟨hlt, he⟩ := Array.getElem?_eq_some_iff.1 hxs
        show w.heap.setIfInBounds b (.map xs' clock) = w.heap
        apply Array.ext_getElem?
        intro j
        rw [Array.getElem?_setIfInBounds]
        by_cases hj : b = j
        · subst hj; simp [hlt, he]
        · simp [hj]
    | some p =>
      obtain ⟨i, e⟩ := p
      cases hev
      obtain ⟨y, _, g3, g4, g5, rfl⟩ := g2
      have hyi : xs'[i]? = some y := by rw [← Array.getElem?_toList]; simpa using g4
      obtain ⟨hlt, hye⟩ := Array.getElem?_eq_some_iff.1 hyi
      obtain ⟨z1, z2⟩ := hH.mapTurn ho hm (es' := es.eraseIdx i) (xs' := xs'.eraseIdxIfInBounds i) (clock' := clock) (by
        have : (xs'.eraseIdxIfInBounds i).toList = xs'.toList.eraseIdx i := by
          rw [Array.eraseIdxIfInBounds, dif_pos hlt, Array.toList_eraseIdx]
        rw [this]; exact hR.erase i)
      refine ⟨rfl, World.put w b (.map (xs'.eraseIdxIfInBounds i) clock), ?_, z1, z2, Kp.set rfl⟩
      simp only [Builtin.delete_, t0, a0, a1, Sem.run_bind, hE.runUnd hu, Result.andThen_ok, MapKept.run_getObj_map hxs, g0, g1, MapKept.run_setObj_map _ hxs, Sem.run_pure]
      rfl
  · cases hev


include hE hH hq in
theorem e_delete {xs : Array Operand} {ats : Array TypeId} {t : TypeId} {ts : List TypeId} {x y : Operand} {l : List Operand} (hx : xs.toList = x :: y :: l) (ht : ats.toList = t :: ts)
    (hev : xDel E (kTy E t) (q x) (q y) h nx L = some (Tn.mk a h' nx')) : Turns P ρ B μ h w ⟨d, .call { callee := .builtin .delete, args := xs, argTypes := ats }, ty, pos, af, gd⟩ a h' := by
  have a0 : (xs.map ρ)[0]? = some (ρ x) := by rw [← Array.getElem?_toList]; simp [hx]
  have a1 : (xs.map ρ)[1]? = some (ρ y) := by rw [← Array.getElem?_toList]; simp [hx]
  have t0 : ats[0]? = some t := by rw [← Array.getElem?_toList]; simp [ht]
  obtain ⟨rfl, w', r1, r2, r3, r4⟩ := e_del (P := P) (ty := ty) hE hH hq (hq x) (hq y) a0 a1 t0 hev
  refine turns_val (v := .tuple #[]) (run_builtin (s := Builtin.delete_ ats ty (xs.map ρ)) rfl ?_) vr_undef (Mu.le_refl _) r2 r3 r4
  have : (Builtin.delete_ ats ty (xs.map ρ)).run P w = .ok (.tuple #[]) w' := r1
  exact this

include hE hH hq in
theorem e_clearM {xs : Array Operand} {ats : Array TypeId} {t kt el : TypeId} {ts : List TypeId} {x : Operand} {l : List Operand} (hx : xs.toList = x :: l) (ht : ats.toList = t :: ts)
    (hu : E.und t = some (.map kt el)) (hev : xClearM (q x) h nx L = some (Tn.mk a h' nx')) : Turns P ρ B μ h w ⟨d, .call { callee := .builtin .clear, args := xs, argTypes := ats }, ty, pos, af, gd⟩ a h' := by
  have a0 : (xs.map ρ)[0]? = some (ρ x) := head_args hx
  have t0 : ats[0]? = some t := head_types ht
  have hxv := hq x
  unfold xClearM at hev
  split at hev
  · rename_i e
    rw [e] at hxv; simp only [VR] at hxv
    cases hev
    refine turns_val (v := .tuple #[]) (run_builtin (s := Builtin.clear_ ats ty (xs.map ρ)) rfl (w' := w) ?_) vr_undef (Mu.le_refl _) hH (Ext.refl _ _) (Kp.refl _ _)
    simp [Builtin.clear_, t0, a0, hE.runUnd hu, hxv]
  · rename_i f e
    rw [e] at hxv; simp only [VR] at hxv
    obtain ⟨b, s, n, hm, hxv⟩ := hxv
    obtain ⟨es, clock, ho, hev⟩ := asMapO_some hev
    cases hev
    obtain ⟨hBb, xs', hxs, hR⟩ := hH.mapOb ho hm
    obtain ⟨z1, z2⟩ := hH.mapTurn ho hm (es' := []) (xs' := #[]) (clock' := clock) (by simp [EnsR])
    refine turns_val (v := .tuple #[]) (run_builtin (s := Builtin.clear_ ats ty (xs.map ρ)) rfl (w' := World.put w b (.map #[] clock)) ?_) vr_undef (Mu.le_refl _) z1 z2 (Kp.set rfl)
    simp only [Builtin.clear_, t0, a0, Sem.run_bind, hE.runUnd hu, Result.andThen_ok, hxv, MapKept.run_getObj_map hxs, MapKept.run_setObj_map _ hxs, Sem.run_pure]
    rfl
  · cases hev

include hE hH hq in
theorem e_clearS {xs : Array Operand} {ats : Array TypeId} {t el : TypeId} {ts : List TypeId} {x : Operand} {l : List Operand} {z : AV} (hx : xs.toList = x :: l) (ht : ats.toList = t :: ts)
    (hu : E.und t = some (.slice el)) (hz : zeroA E el = some z) (hev : xClearS z.cells (q x) h nx L = some (Tn.mk a h' nx')) : Turns P ρ B μ h w ⟨d, .call { callee := .builtin .clear, args := xs, argTypes := ats }, ty, pos, af, gd⟩ a h' := by
  have a0 : (xs.map ρ)[0]? = some (ρ x) := head_args hx
  have t0 : ats[0]? = some t := head_types ht
  have hxv := hq x
  obtain ⟨zv, hzv, rfl⟩ := hE.runZero hz w
  unfold xClearS at hev
  split at hev
  · rename_i e
    rw [e] at hxv; simp only [VR] at hxv
    cases hev
    refine turns_val (v := .tuple #[]) (run_builtin (s := Builtin.clear_ ats ty (xs.map ρ)) rfl (w' := w) ?_) vr_undef (Mu.le_refl _) hH (Ext.refl _ _) (Kp.refl _ _)
    simp [Builtin.clear_, t0, a0, hE.runUnd hu, hxv]
  · rename_i f g o n cp sz ex e
    rw [e] at hxv; simp only [VR] at hxv
    obtain ⟨b, s, mm, xo, c, hm, hxv, v1, v2, v3, hpl⟩ := hxv
    by_cases hn0 : n = 0
    · subst hn0
      cases hev
      refine turns_val (v := .tuple #[]) (run_builtin (s := Builtin.clear_ ats ty (xs.map ρ)) rfl (w' := w) ?_) vr_undef (Mu.le_refl _) hH (Ext.refl _ _) (Kp.refl _ _)
      simp [Builtin.clear_, t0, a0, hE.runUnd hu, hxv]
    · have hb : Nat.beq n 0 = false := Bool.eq_false_iff.2 fun hh => hn0 (Nat.eq_of_beq_eq_true hh)
      rw [hb] at hev
      obtain ⟨hzl, hev⟩ := cnd_inv (show cnd _ _ none = some _ from hev)
      have hzl := Nat.eq_of_beq_eq_true hzl
      obtain ⟨h2, hst, hev⟩ := opt_inv hev
      cases hev
      have hzc := ofV_cells (μ := μ) zv
      have hzs : (ofV zv).cells.length = zv.cells.size := by have := hzc.length; simpa using this
      rcases hpl with ⟨p1, rfl, p3⟩ | ⟨p1, _⟩
      · unfold storeTo at hst
        have hz0 : n * (ofV zv).cells.length ≠ 0 ∨ n * (ofV zv).cells.length = 0 := by omega
        rcases hz0 with hz0 | hz0
        · have hvs := zeros_sound hzc n hz0
          have hnb : Nat.beq (repL (ofV zv).cells n).length 0 = false := Bool.eq_false_iff.2 fun hh => hz0 (by rw [← repL_length]; exact Nat.eq_of_beq_eq_true hh)
          rw [hnb] at hst
          obtain ⟨hsc, hst⟩ := cnd_inv (show cnd _ _ none = some _ from hst)
          obtain ⟨w', r1, r2, r3, r4⟩ := storeC_sound (P := P) hH hm p1 hst rfl (by rw [repL_length]; omega) hvs (allScalar_of hsc hvs)
          refine turns_val (v := .tuple #[]) (run_builtin (s := Builtin.clear_ ats ty (xs.map ρ)) rfl (w' := w') ?_) vr_undef (Mu.le_refl _) r2 r3 r4
          obtain ⟨k, rfl⟩ : ∃ k, n = k + 1 := ⟨n - 1, by omega⟩
          have e5 : (Builtin.zeroCells zv.cells (k + 1)).toList = ((Array.range ((k + 1) * (ofV zv).cells.length)).map (zv.cells[· % zv.cells.size]!)).toList := by rw [hzs]; rfl
          simp only [Builtin.clear_, t0, a0, Sem.run_bind, hE.runUnd hu, Result.andThen_ok, hxv, hzv, e5, r1, Sem.run_pure]
        · have hnb : Nat.beq (repL (ofV zv).cells n).length 0 = true := by rw [repL_length, hz0]; rfl
          rw [hnb] at hst
          cases hst
          refine turns_val (v := .tuple #[]) (run_builtin (s := Builtin.clear_ ats ty (xs.map ρ)) rfl (w' := w) ?_) vr_undef (Mu.le_refl _) hH (Ext.refl _ _) (Kp.refl _ _)
          obtain ⟨k, rfl⟩ : ∃ k, n = k + 1 := ⟨n - 1, by omega⟩
          have e5 : (Builtin.zeroCells zv.cells (k + 1)).toList = [] := by
            have : (Builtin.zeroCells zv.cells (k + 1)).size = 0 := by simp only [Builtin.zeroCells, Array.size_map, Array.size_range]; rw [← hzs]; exact hz0
            exact List.length_eq_zero_iff.1 (by simpa using this)
          simp only [Builtin.clear_, t0, a0, Sem.run_bind, hE.runUnd hu, Result.andThen_ok, hxv, hzv, e5, storeCells, Sem.run_pure]
      · omega
  · cases hev

end
end Go.Ev
