/- THE EVALUATOR, part 6 of 13: EvEff4 EvEff5 EvEff6 EvEff7 -/
import Derived.Test.YtadnhmpkfelofaaGreatDoorEv5
import GoSem.Extern.Table
import Derived.KernelRfl
set_option linter.unusedVariables false
set_option linter.unusedSectionVars false
set_option linter.unusedSimpArgs false
namespace Go.Ev
set_option linter.unusedVariables false
set_option linter.unusedSectionVars false
set_option linter.unusedSimpArgs false
variable [Val] [Fk]
theorem growTo_inv {n : Nat} {k : Nat → Tr Row → Option Tn} {r : Tn} : ∀ (fuel d : Nat) (c : Tr Row), Tr.Wf d c → growTo n fuel d c k = some r → ∃ d' c', Tr.Wf d' c' ∧ (∀ i, c'.get i = c.get i) ∧ n ≤ 2 ^ d' ∧ k d' c' = some r
  | 0, d, c, hw, h => by cases h
  | fuel + 1, d, c, hw, h => by
    unfold growTo at h
    rw [cnd_eq] at h
    split at h
    · rename_i hle; exact ⟨d, c, hw, fun _ => rfl, Nat.le_of_ble_eq_true hle, h⟩
    · obtain ⟨d', c', h1, h2, h3, h4⟩ := growTo_inv fuel (d + 1) c.grow (Tr.grow_wf d c hw) h
      exact ⟨d', c', h1, fun i => by rw [h2, Tr.get_grow d c hw], h3, h4⟩
theorem addRows_sound {dp gw : Nat} : ∀ (ls : List (List AV)) (c : Tr Row) (r : Nat), Tr.Wf dp c → r + ls.length ≤ 2 ^ dp →
    Tr.Wf dp (addRows dp gw c r ls) ∧ ∀ k, (addRows dp gw c r ls).get k = if r ≤ k ∧ k < r + ls.length then (ls[k - r]?).map (Row.mk · gw) else c.get k
  | [], c, r, hw, hle => ⟨hw, fun k => by rw [if_neg (by simp only [List.length_nil]; omega)]; rfl⟩
  | l :: ls, c, r, hw, hle => by
    simp only [List.length_cons] at hle
    obtain ⟨h1, h2⟩ := addRows_sound ls (c.set dp r (.mk l gw)) (r + 1) (Tr.set_wf dp c r _ hw) (by omega)
    refine ⟨h1, fun k => ?_⟩
    show (addRows dp gw (c.set dp r (.mk l gw)) (r + 1) ls).get k = _
    rw [h2]
    simp only [List.length_cons]
    by_cases hk : r + 1 ≤ k ∧ k < r + 1 + ls.length
    · rw [if_pos hk, if_pos (by omega), show k - r = (k - (r + 1)) + 1 by omega]; simp
    · rw [if_neg hk, Tr.get_set dp c r k _ hw (by omega)]
      by_cases hkr : k = r
      · subst hkr; rw [if_pos rfl, if_pos (by omega)]; simp
      · rw [if_neg hkr, if_neg (by omega)]
theorem getRows_get {g : Nat} {c : Tr Row} : ∀ (n r : Nat) (ls : List (List AV)), getRows c g n r = some ls → ls.length = n ∧ ∀ i l, ls[i]? = some l → ∃ gw, c.get (r + i) = some (.mk l gw) ∧ gw ≤ g
  | 0, r, ls, h => by cases h; exact ⟨rfl, fun i l hi => by simp at hi⟩
  | n + 1, r, ls, h => by
    unfold getRows at h
    split at h
    · rename_i l gw hr
      obtain ⟨hgw, h⟩ := cnd_inv h
      split at h
      · rename_i ls' hls
        cases h
        obtain ⟨h1, h2⟩ := getRows_get n (r + 1) ls' hls
        refine ⟨by simp [h1], fun i l' hi => ?_⟩
        cases i with
        | zero => simp at hi; subst hi; exact ⟨gw, hr, Nat.le_of_ble_eq_true hgw⟩
        | succ i => simp at hi; obtain ⟨g1, e1, e2⟩ := h2 i l' hi; exact ⟨g1, by rw [← e1]; congr 1; omega, e2⟩
      · cases h
    · cases h
theorem rowsGw_get : ∀ (ls : List (List AV)) (gw i : Nat) (l : List AV) (g : Nat), (rowsGw gw ls)[i]? = some (.mk l g) → ls[i]? = some l ∧ g = gw
  | [], gw, i, l, g, h => by simp [rowsGw] at h
  | x :: ls, gw, 0, l, g, h => by simp [rowsGw] at h; obtain ⟨rfl, rfl⟩ := h; simp
  | x :: ls, gw, i + 1, l, g, h => by simp only [rowsGw, List.getElem?_cons_succ] at h ⊢; exact rowsGw_get ls gw i l g h
theorem rowsGw_length : ∀ (ls : List (List AV)) (gw : Nat), (rowsGw gw ls).length = ls.length
  | [], _ => rfl
  | _ :: ls, gw => by simp [rowsGw, rowsGw_length ls]
theorem flat_append : ∀ (a b : List (List AV)), flat (a ++ b) = flat a ++ flat b
  | [], b => rfl
  | x :: a, b => by simp [flat, flat_append a b]
theorem row_at {μ : Mu} {sz s x r0 r : Nat} {ls : List (List AV)} {cs : Array Value} {l : List AV} (hlen : ∀ l ∈ ls, l.length = sz) (hc : ∀ j a, (flat ls)[j]? = some a → ∃ v, cs[x + j]? = some v ∧ VR μ a v)
    (hx : x + s = r0 * sz) (hr : r0 ≤ r) (hl : ls[r - r0]? = some l) : RowR μ cs s sz r l := by
  have hrr : r * sz = r0 * sz + (r - r0) * sz := by rw [← Nat.add_mul]; congr 1; omega
  refine ⟨by omega, hlen _ (List.mem_of_getElem? hl), fun j a hj => ?_⟩
  have hjl : j < sz := by have := (List.getElem?_eq_some_iff.1 hj).1; rw [hlen _ (List.mem_of_getElem? hl)] at this; exact this
  have hf := flat_get ls (r - r0) j l hlen hl hjl
  rw [hj] at hf
  obtain ⟨v, e1, e2⟩ := hc _ a hf
  exact ⟨v, by rw [← e1]; congr 1; omega, e2⟩
section
variable {E : Env} {P : Program} (hE : EnvOk E P) {B : Nat} {μ : Mu} {h : Hp} {w : World} (hH : HR B μ h w) {nx : Key} (hB : B ≤ w.heap.size)
include hH hB in
theorem HR.fresh (hnx : (hget nx h).isNone = true) {w' : World} {cs : Array Value} {e : TypeId} {sz : Nat} {ls : List (List AV)} (hw : w'.heap = w.heap.push (.cells cs e (0, 0)))
    (hlen : ∀ l ∈ ls, l.length = sz) (hc : ∀ j a, (flat ls)[j]? = some a → ∃ v, cs[0 + j]? = some v ∧ VR μ a v) :
    HR B (μ.ins nx 0 (w.heap.size, 0, cs.size)) (hset nx (newRows sz ls) h) w' ∧ μ.le (μ.ins nx 0 (w.heap.size, 0, cs.size)) := by
  refine hH.alloc hnx hw (new_cells hH hnx hB hw (.inl rfl) (Tr.ofList_wf _ _) (fun r hr => ?_) (fun r l gw hg => ?_))
  · cases hg : (Tr.ofList (depthFor ls.length 25 0) (rowsGw 0 ls)).get r with
    | none => rfl
    | some y =>
      have := (List.getElem?_eq_some_iff.1 (Tr.ofList_some _ _ _ _ hg)).1
      rw [rowsGw_length] at this; omega
  · obtain ⟨h1, h2⟩ := rowsGw_get _ _ _ _ _ (Tr.ofList_some _ _ _ _ hg)
    refine ⟨h2, row_at (r0 := 0) (x := 0) hlen (fun j a hj => ?_) (by simp) (Nat.zero_le _) (by simpa using h1)⟩
    obtain ⟨v, e1, e2⟩ := hc j a hj
    exact ⟨v, e1, VR.mono (Mu.ins_le (hH.noneAt hnx 0) _) _ _ e2⟩
variable {f : Key} {gen sz dp ext : Nat} {c : Tr Row} {b s n : Nat}
include hH in
theorem HR.growIn (hns : gen + 1 ≠ strGen) (ho : hget f h = .cells false gen sz dp ext c) (hm : μ f gen = some (b, s, n)) {cs : Array Value} {e : TypeId} {fz : Nat × Nat} (hheap : w.heap[b]? = some (.cells cs e fz))
    {dp' : Nat} {c' : Tr Row} {new : List (List AV)} {vs : List Value} (hw' : Tr.Wf dp' c') (hlen : ∀ l ∈ new, l.length = sz) (hs : s ≤ ext * sz) (hroom : ext * sz - s + vs.length ≤ cs.size) (hv : VRs μ (flat new) vs)
    (hget' : ∀ k, c'.get k = if ext ≤ k ∧ k < ext + new.length then (new[k - ext]?).map (Row.mk · (gen + 1)) else c.get k) :
    HR B (μ.ins f (gen + 1) (b, s, n)) (hset f (.cells false (gen + 1) sz dp' (ext + new.length) c') h) (World.put w b (.cells (spliceA cs (ext * sz - s) vs) e fz)) ∧ μ.le (μ.ins f (gen + 1) (b, s, n)) := by
  obtain ⟨hwf, hgen, hblk⟩ := hH.cells ho
  have hbl := hH.lt _ _ _ _ _ hm
  have hBb : B ≤ b := (hblk _ _ _ _ hm).1 rfl
  have hle : μ.le (μ.ins f (gen + 1) (b, s, n)) := Mu.ins_le (hgen.1 _ (Nat.lt_succ_self _)) _
  have hvl : vs.length = new.length * sz := by rw [← hv.length, flat_length new hlen]
  have same : ∀ r l gw, c.get r = some (.mk l gw) → s ≤ r * sz → ∀ j, j < sz → (spliceA cs (ext * sz - s) vs)[r * sz + j - s]? = cs[r * sz + j - s]? := by
    intro r l gw hr hsr j hj
    rw [spliceA_get _ _ _ _ hroom, if_neg]
    rintro ⟨q1, q2⟩
    have hre : r < ext := Nat.lt_of_not_le fun hh => by rw [hwf.2 r hh] at hr; cases hr
    have := mul_le_of_lt (sz := sz) hre
    omega
  refine ⟨⟨?_, ?_, ?_, ?_, hH.fk, fun f1 b1 s1 n1 h1 => (Mu.ins_inv h1).elim (fun h => by obtain ⟨_, h2, h3⟩ := h; first | omega | (cases h3; rfl)) fun h => hH.start _ _ _ _ h⟩, hle⟩
  · intro f1 g1 b1 s1 m1 f2 g2 s2 m2 h1 h2 hc
    rcases Mu.ins_inv h1 with ⟨i1, _, e1⟩ | k1 <;> rcases Mu.ins_inv h2 with ⟨i2, _, e2⟩ | k2
    · cases e1; cases e2; exact ⟨i1.trans i2.symm, rfl, rfl⟩
    · cases e1; subst i1; exact hH.inj _ _ _ _ _ _ _ _ _ hm k2 (.inr hBb)
    · cases e2; subst i2; exact hH.inj _ _ _ _ _ _ _ _ _ k1 hm (.inr hBb)
    · exact hH.inj _ _ _ _ _ _ _ _ _ k1 k2 hc
  · intro f1 g1 b1 s1 m1 h1
    simp only [World.put, Array.size_setIfInBounds]
    rcases Mu.ins_inv h1 with ⟨rfl, rfl, e1⟩ | k1
    · cases e1; exact hbl
    · exact hH.lt _ _ _ _ _ k1
  · intro f1
    by_cases hff : f = f1
    · subst hff
      rw [hget_hset]
      refine ⟨⟨hw', fun r hr => ?_⟩, ⟨fun g hg => ?_, fun r l gw hr => ?_⟩, ?_⟩
      · rw [hget', if_neg (by omega)]; exact hwf.2 r (by omega)
      · rw [Mu.ins_other _ (.inr (by omega))]; exact hgen.1 g (by omega)
      · rw [hget'] at hr
        split at hr
        · cases hn : new[r - ext]? with
          | none => rw [hn] at hr; cases hr
          | some l1 => rw [hn] at hr; simp only [Option.map_some, Option.some.injEq, Row.mk.injEq] at hr; omega
        · have := hgen.2 r l gw hr; omega
      · have main : ∀ g b1 s1 n1, μ f g = some (b1, s1, n1) → ∀ g', g ≤ g' → (g' ≤ gen → g' = g) → (g = gen ∨ g' = g) → (false = false → B ≤ b1) ∧ s1 % sz = 0 ∧ ∃ cs1 e1 fz1, (World.put w b (.cells (spliceA cs (ext * sz - s) vs) e fz)).heap[b1]? = some (.cells cs1 e1 fz1) ∧
            FzOk g' cs1 fz1 ∧ cs1.size = n1 ∧ ∀ r l gw, c'.get r = some (.mk l gw) → gw ≤ g' → s1 ≤ r * sz → RowR (μ.ins f (gen + 1) (b, s, n)) cs1 s1 sz r l := by
          intro g b1 s1 n1 hm1 g' hgg hge hor
          obtain ⟨a1, a2, cs1, e1, fz1, a3, a4, a5, a6⟩ := hblk g b1 s1 n1 hm1
          have hg : g ≤ gen := Nat.le_of_not_lt fun hlt => by rw [hgen.1 g hlt] at hm1; cases hm1
          have fzm : ∀ {cs2 : Array Value}, cs2.size = cs1.size → FzOk g' cs2 fz1 := fun hh => by
            rcases a4 with h0 | ⟨h0, h1⟩
            · exact .inl h0
            · exact .inr ⟨by omega, by rw [hh]; exact h1⟩
          by_cases hb : b1 = b
          · subst hb
            obtain ⟨_, rfl, rfl⟩ := hH.inj _ _ _ _ _ _ _ _ _ hm hm1 (.inr hBb)
            rw [hheap] at a3
            simp only [Option.some.injEq, Obj.cells.injEq] at a3
            obtain ⟨rfl, rfl, rfl⟩ := a3
            refine ⟨a1, a2, _, _, _, put_get hbl, fzm (spliceA_size _ _ _), by rw [spliceA_size]; exact a5, ?_⟩
            intro r l gw g1 g2 g3
            rw [hget'] at g1
            split at g1
            · rename_i hin
              cases hn : new[r - ext]? with
              | none => rw [hn] at g1; cases g1
              | some l1 =>
                rw [hn] at g1
                simp only [Option.map_some, Option.some.injEq, Row.mk.injEq] at g1
                obtain ⟨rfl, rfl⟩ := g1
                refine (row_at (μ := μ) (r0 := ext) (x := ext * sz - s) hlen (fun j a hj => ?_) (by omega) hin.1 hn).mono hle
                obtain ⟨v, q1, q2⟩ := hv.get hj
                have hjl : j < vs.length := (List.getElem?_eq_some_iff.1 q1).1
                refine ⟨v, ?_, q2⟩
                rw [spliceA_get _ _ _ _ hroom, if_pos (by omega), ← q1]
                congr 1; omega
            · have hgw : gw ≤ gen := hgen.2 r l gw g1
              have hgwg : gw ≤ g := by
                rcases hor with h0 | h0
                · omega
                · omega
              obtain ⟨k1, k2, k3⟩ := a6 r l gw g1 hgwg g3
              refine ⟨k1, k2, fun j a hj => ?_⟩
              have hjl : j < sz := by have := (List.getElem?_eq_some_iff.1 hj).1; omega
              rw [same r l gw g1 g3 j hjl]
              obtain ⟨v, q1, q2⟩ := k3 j a hj
              exact ⟨v, q1, VR.mono hle _ _ q2⟩
          · have hgg2 : g' = g := by
              rcases hor with h0 | h0
              · subst h0
                rw [hm] at hm1
                simp only [Option.some.injEq, Prod.mk.injEq] at hm1
                exact absurd hm1.1.symm hb
              · exact h0
            subst hgg2
            refine ⟨a1, a2, cs1, e1, fz1, ?_, a4, a5, ?_⟩
            · simp only [World.put]; rw [Array.getElem?_setIfInBounds_ne (Ne.symm hb)]; exact a3
            · intro r l gw g1 g2 g3
              rw [hget'] at g1
              split at g1
              · cases hn : new[r - ext]? with
                | none => rw [hn] at g1; cases g1
                | some l1 =>
                  rw [hn] at g1
                  simp only [Option.map_some, Option.some.injEq, Row.mk.injEq] at g1
                  omega
              · exact (a6 r l gw g1 g2 g3).mono hle
        intro g b1 s1 n1 hm1
        rcases Mu.ins_inv hm1 with ⟨_, rfl, e1⟩ | k1
        · cases e1
          exact main gen b s n hm (gen + 1) (Nat.le_succ _) (fun hh => absurd hh (by omega)) (.inl rfl)
        · exact main g b1 s1 n1 k1 g (Nat.le_refl _) (fun _ => rfl) (.inr rfl)
    · rw [hget_hset_ne hff]
      refine OR.mono hle (fun g => Mu.ins_other _ (.inl hff) _) (fun g b1 s1 m1 hm1 => ?_) (hH.obj f1)
      have hne : b ≠ b1 := fun hb => by subst hb; exact hff (hH.inj _ _ _ _ _ _ _ _ _ hm hm1 (.inr hBb)).1
      simp only [World.put]
      rw [Array.getElem?_setIfInBounds_ne hne]
  · intro f1 g1 g2 b1 s1 m1 s2 m2 h1 h2 hg
    rcases Mu.ins_inv h1 with ⟨i0, i1, e1⟩ | k1 <;> rcases Mu.ins_inv h2 with ⟨j0, i2, e2⟩ | k2
    · omega
    · cases e1
      subst i0
      exact hH.side _ gen g2 _ _ _ _ _ hm k2 (by omega)
    · cases e2
      subst j0
      have := hH.side _ g1 gen _ _ _ _ _ k1 hm hg
      omega
    · exact hH.side _ _ _ _ _ _ _ _ k1 k2 hg
include hH hB in
theorem HR.growNew (ho : hget f h = .cells false gen sz dp ext c) (hm : μ f gen = some (b, s, n)) {w' : World} {cs : Array Value} {e : TypeId}
    {dp' : Nat} {c' : Tr Row} {o : Nat} {old new : List (List AV)} (hw : w'.heap = w.heap.push (.cells cs e (0, 0))) (hw' : Tr.Wf dp' c') (hlen : ∀ l ∈ old ++ new, l.length = sz) (hsz : 0 < sz) (ho0 : o % sz = 0)
    (hext : ext = o / sz + old.length) (hold : ∀ i l, old[i]? = some l → ∃ gw, c.get (o / sz + i) = some (.mk l gw))
    (hc : ∀ j a, (flat (old ++ new))[j]? = some a → ∃ v, cs[0 + j]? = some v ∧ VR μ a v)
    (hget' : ∀ k, c'.get k = if ext ≤ k ∧ k < ext + new.length then (new[k - ext]?).map (Row.mk · (gen + 1)) else c.get k) :
    HR B (μ.ins f (gen + 1) (w.heap.size, o, cs.size)) (hset f (.cells false (gen + 1) sz dp' (ext + new.length) c') h) w' ∧ μ.le (μ.ins f (gen + 1) (w.heap.size, o, cs.size)) := by
  obtain ⟨hwf, hgen, hblk⟩ := hH.cells ho
  have hbl := hH.lt _ _ _ _ _ hm
  have hle : μ.le (μ.ins f (gen + 1) (w.heap.size, o, cs.size)) := Mu.ins_le (hgen.1 _ (Nat.lt_succ_self _)) _
  have e1 : o / sz * sz + o % sz = o := Nat.div_add_mod' o sz
  refine ⟨⟨?_, ?_, ?_, ?_, hH.fk, fun f1 b1 s1 n1 h1 => (Mu.ins_inv h1).elim (fun h => by obtain ⟨_, h2, h3⟩ := h; first | omega | (cases h3; rfl)) fun h => hH.start _ _ _ _ h⟩, hle⟩
  · intro f1 g1 b1 s1 m1 f2 g2 s2 m2 h1 h2 hc
    rcases Mu.ins_inv h1 with ⟨i1, _, e1⟩ | k1 <;> rcases Mu.ins_inv h2 with ⟨i2, _, e2⟩ | k2
    · cases e1; cases e2; exact ⟨i1.trans i2.symm, rfl, rfl⟩
    · cases e1; exact absurd (hH.lt _ _ _ _ _ k2) (Nat.lt_irrefl _)
    · cases e2; exact absurd (hH.lt _ _ _ _ _ k1) (Nat.lt_irrefl _)
    · exact hH.inj _ _ _ _ _ _ _ _ _ k1 k2 hc
  · intro f1 g1 b1 s1 m1 h1
    rw [hw, Array.size_push]
    rcases Mu.ins_inv h1 with ⟨rfl, rfl, e1⟩ | k1
    · cases e1; omega
    · have := hH.lt _ _ _ _ _ k1; omega
  · intro f1
    by_cases hff : f = f1
    · subst hff
      rw [hget_hset]
      refine ⟨⟨hw', fun r hr => ?_⟩, ⟨fun g hg => ?_, fun r l gw hr => ?_⟩, ?_⟩
      · rw [hget', if_neg (by omega)]; exact hwf.2 r (by omega)
      · rw [Mu.ins_other _ (.inr (by omega))]; exact hgen.1 g (by omega)
      · rw [hget'] at hr
        split at hr
        · cases hn : new[r - ext]? with
          | none => rw [hn] at hr; cases hr
          | some l1 => rw [hn] at hr; simp only [Option.map_some, Option.some.injEq, Row.mk.injEq] at hr; omega
        · have := hgen.2 r l gw hr; omega
      · intro g b1 s1 n1 hm1
        rcases Mu.ins_inv hm1 with ⟨_, rfl, e2⟩ | k1
        · cases e2
          refine ⟨fun _ => hB, ho0, cs, e, (0, 0), by rw [hw]; simp, .inl rfl, rfl, ?_⟩
          intro r l gw g1 g2 g3
          have hr0 : o / sz ≤ r := by
            have : o / sz * sz ≤ r * sz := by omega
            exact Nat.le_of_mul_le_mul_right this hsz
          have key : (old ++ new)[r - o / sz]? = some l := by
            rw [hget'] at g1
            split at g1
            · rename_i hin
              cases hn : new[r - ext]? with
              | none => rw [hn] at g1; cases g1
              | some l1 =>
                rw [hn] at g1
                simp only [Option.map_some, Option.some.injEq, Row.mk.injEq] at g1
                obtain ⟨rfl, rfl⟩ := g1
                rw [List.getElem?_append_right (by omega), ← hn]
                congr 1; omega
            · rename_i hin
              have hre : r < ext := Nat.lt_of_not_le fun hh => by rw [hwf.2 r hh] at g1; cases g1
              have hi : r - o / sz < old.length := by omega
              obtain ⟨gw', q⟩ := hold (r - o / sz) _ (List.getElem?_eq_getElem hi)
              rw [show o / sz + (r - o / sz) = r by omega, g1] at q
              simp only [Option.some.injEq, Row.mk.injEq] at q
              rw [List.getElem?_append_left hi, List.getElem?_eq_getElem hi, q.1]
          refine (row_at (μ := μ) (r0 := o / sz) (x := 0) hlen hc (by omega) hr0 key).mono hle
        · obtain ⟨a1, a2, cs1, e1, fz1, a3, a4, a5, a6⟩ := hblk g b1 s1 n1 k1
          have hg : g ≤ gen := Nat.le_of_not_lt fun hlt => by rw [hgen.1 g hlt] at k1; cases k1
          refine ⟨a1, a2, cs1, e1, fz1, ?_, a4, a5, ?_⟩
          · rw [hw, Array.getElem?_push, if_neg (by have := hH.lt _ _ _ _ _ k1; omega)]; exact a3
          · intro r l gw g1 g2 g3
            rw [hget'] at g1
            split at g1
            · cases hn : new[r - ext]? with
              | none => rw [hn] at g1; cases g1
              | some l1 =>
                rw [hn] at g1
                simp only [Option.map_some, Option.some.injEq, Row.mk.injEq] at g1
                omega
            · exact (a6 r l gw g1 g2 g3).mono hle
    · rw [hget_hset_ne hff]
      refine OR.mono hle (fun g => Mu.ins_other _ (.inl hff) _) (fun g b1 s1 m1 hm1 => ?_) (hH.obj f1)
      rw [hw, Array.getElem?_push, if_neg (by have := hH.lt _ _ _ _ _ hm1; omega)]
  · intro f1 g1 g2 b s m s2 m2 h1 h2 hg
    rcases Mu.ins_inv h1 with ⟨_, i1, e1⟩ | k1 <;> rcases Mu.ins_inv h2 with ⟨_, i2, e2⟩ | k2
    · omega
    · cases e1; exact absurd (hH.lt _ _ _ _ _ k2) (Nat.lt_irrefl _)
    · cases e2; exact absurd (hH.lt _ _ _ _ _ k1) (Nat.lt_irrefl _)
    · exact hH.side _ _ _ _ _ _ _ _ k1 k2 hg
theorem rowsScalar_of {rows : List (List AV)} {vs : List Value} (hs : rowsScalar rows = true) (hv : VRs μ (flat rows) vs) : ∀ v ∈ vs, v.oneCell' = true := by
  have key : ∀ (rows : List (List AV)), rowsScalar rows = true → allScalar (flat rows) = true := by
    intro rows
    induction rows with
    | nil => intro _; rfl
    | cons l ls ih =>
      intro hh
      have hh : cnd (allScalar l) (rowsScalar ls) false = true := hh
      rw [cnd_eq] at hh
      split at hh
      · rename_i h1
        have app : ∀ (a b : List AV), allScalar a = true → allScalar b = true → allScalar (a ++ b) = true := by
          intro a
          induction a with
          | nil => intro b _ hb; exact hb
          | cons x a iha =>
            intro b ha hb
            have ha : cnd x.scalar (allScalar a) false = true := ha
            show cnd x.scalar (allScalar (a ++ b)) false = true
            rw [cnd_eq] at ha ⊢
            split at ha
            · rename_i hx; rw [if_pos hx]; exact iha b ha hb
            · cases ha
        exact app _ _ h1 (ih hh)
      · cases hh
  exact allScalar_of (key rows hs) hv
end
end Go.Ev

namespace Go.Ev
set_option linter.unusedVariables false
set_option linter.unusedSectionVars false
set_option linter.unusedSimpArgs false
variable [Val] [Fk]
section
variable {E : Env} {P : Program} (hE : EnvOk E P) {B : Nat} {μ : Mu} {h : Hp} {w : World} (hH : HR B μ h w) {nx : Key} (hB : B ≤ w.heap.size)
  {L : Lo} {ρ : Operand → Value} {q : Operand → Opd} (hq : ∀ x, VR μ (getO (q x) L) (ρ x))
variable {d : Option Tmp} {ty : TypeId} {pos : String} {af : Array Edge} {gd : Option (Nat × Bool)} {a : AV} {h' : Hp} {nx' : Key}
theorem turns_val {o : Oper} {v : Value} {w' : World} {ν : Mu} (hrun : (execOp ρ o).run P w = .ok (.value v) w') (hv : VR ν a v) (hle : μ.le ν) (hh : HR B ν h' w') (he : Ext B w w') (hk : Kp h μ h' ν) : Turns P ρ B μ h w o a h' :=
  ⟨v, .value v, w', ν, hrun, rfl, hv, hle, hh, he, hk⟩
theorem fresh_inv {o : Ob} {v : AV} {r : Tn} (hf : fresh h nx o v = some r) : (hget nx h).isNone = true ∧ r = .mk v (hset nx o h) nx.next := by
  obtain ⟨h1, h2⟩ := cnd_inv hf
  cases h2; exact ⟨h1, rfl⟩
theorem HR.world {w' : World} (hH : HR B μ h w) (hw : w'.heap = w.heap) : HR B μ h w' := by
  refine ⟨hH.inj, fun f g b s n hm => by rw [hw]; exact hH.lt f g b s n hm, fun f => OR.mono (Mu.le_refl μ) (fun _ => rfl) (fun g b s n hm => by rw [hw]) (hH.obj f), hH.side, hH.fk, hH.start⟩
include hE hH hB hq in
theorem e_appendT {xs : Array Operand} {ats : Array TypeId} {st xt el : TypeId} {ts : List TypeId} {x y : Operand} {l : List Operand} {dx : TypeDesc} {k : Nat} {z : AV} (hx : xs.toList = x :: y :: l) (ht : ats.toList = st :: xt :: ts)
    (hu : E.und st = some (.slice el)) (hxt : E.und xt = some dx) (hn : ∀ kk, dx ≠ .int kk) (hsz : E.size el = some (k + 1)) (hz : zeroA E el = some z)
    (hz1 : Nat.beq z.cells.length (k + 1) = true) (hby : Nat.ble (bytesO E el) 1000000 = true) {n : Nat} {new : List (List AV)} {vs : List Value} (hlen : ∀ w', (Builtin.lenOf (ρ y)).run P w' = .ok n w') (hnl : new.length = n) (hnr : ∀ l ∈ new, l.length = k + 1) (hvs : VRs μ (flat new) vs)
    (hfc : ∀ w', w'.heap = w.heap → (Builtin.firstCells (k + 1) n (ρ y)).run P w' = .ok vs.toArray w') (hev : appTail (k + 1) (getO (q x) L) n new h nx = some (Tn.mk a h' nx')) :
    Turns P ρ B μ h w ⟨d, .call { callee := .builtin .append, args := xs, argTypes := ats }, ty, pos, af, gd⟩ a h' := by
  have hz1 := Nat.eq_of_beq_eq_true hz1
  have hby := Nat.le_of_ble_eq_true hby
  obtain ⟨i, zv, hi, hiz, hzv⟩ := hE.zero hz
  have hisz : i.size = k + 1 := by obtain ⟨i', h1, h2⟩ := hE.size hsz; rw [hi] at h1; cases h1; exact h2
  have hiby : i.bytes ≤ 1000000 := by
    unfold bytesO at hby
    split at hby
    · rename_i i' hi'
      have := hE.ts _ _ hi'
      rw [hi] at this; cases this; exact hby
    · omega
  have hzs : zv.cells.size = k + 1 := by
    have := (ofV_cells (μ := μ) zv).length
    rw [← hzv, hz1] at this; simpa using this.symm
  have a0 : (xs.map ρ)[0]? = some (ρ x) := by rw [← Array.getElem?_toList]; simp [hx]
  have a1 : (xs.map ρ)[1]? = some (ρ y) := by rw [← Array.getElem?_toList]; simp [hx]
  have t0 : ats[0]? = some st := by rw [← Array.getElem?_toList]; simp [ht]
  have t1 : ats[1]? = some xt := by rw [← Array.getElem?_toList]; simp [ht]
  have up := hE.und hu
  have uxp := hE.und hxt
  have runval : ∀ {v : Value} {w' : World}, (Builtin.append_ ats ty (xs.map ρ)).run P w = .ok v w' → (execOp ρ ⟨d, .call { callee := .builtin .append, args := xs, argTypes := ats }, ty, pos, af, gd⟩).run P w = .ok (.value v) w' :=
    fun hr => run_builtin rfl hr
  have hvl : vs.length = n * (k + 1) := by rw [← hvs.length, flat_length new hnr, hnl]
  -- a new block
  have newBlock : ∀ {base : Option Addr} {sLen sCap : Nat} {os : List Value} {old : List (List AV)}, ρ x = .slice base sLen sCap → sCap < sLen + n → sLen + n ≤ 1000000 → (∀ w', w'.heap = w.heap → (Builtin.firstCells i.size sLen (.slice base sLen sCap)).run P w' = .ok os.toArray w') →
      VRs μ (flat old) os → (∀ l ∈ old, l.length = k + 1) → old.length = sLen → ∃ cs cp, sLen + n ≤ cp ∧ cs.size = cp * (k + 1) ∧
        (Builtin.append_ ats ty (xs.map ρ)).run P w = .ok (.slice (some ⟨w.heap.size, 0, none⟩) (sLen + n) cp) (w.drew.alloc (.cells cs el)) ∧ ∀ j b, (flat (old ++ new))[j]? = some b → ∃ v, cs[0 + j]? = some v ∧ VR μ b v := by
    intro base sLen sCap os old hxx hlt hle hfo hvo holdr hol
    obtain ⟨cp, hcp, hrun⟩ := run_append_new (P := P) (w := w) (ty := ty) (ats := ats) (args := xs.map ρ) (base := base) (sLen := sLen) (sCap := sCap) (n := n) (y := ρ y) (os := os.toArray) (vs := vs.toArray) t0 t1 (by rw [a0, hxx]) a1 up uxp hn hi hiz (hlen w) hlt hle hiby
      (by rw [hisz]; exact hfc w.drew rfl) (hfo w.drew rfl)
    refine ⟨_, cp, hcp, ?_, hrun, ?_⟩
    · have hol' : os.length = sLen * (k + 1) := by rw [← hvo.length, flat_length old holdr, hol]
      simp only [Array.size_append, List.size_toArray, Builtin.zeroCells, Array.size_map, Array.size_range, hzs, hvl, hol']
      rw [← Nat.add_mul, ← Nat.add_mul]; congr 1; omega
    · intro j b hj
      rw [flat_append] at hj
      obtain ⟨v, e1, e2⟩ := (hvo.append hvs).get hj
      refine ⟨v, ?_, e2⟩
      rw [Nat.zero_add]
      have hjl : j < (os ++ vs).length := (List.getElem?_eq_some_iff.1 e1).1
      rw [Array.getElem?_append_left (by simpa using hjl)]
      rw [List.append_toArray, List.getElem?_toArray]
      exact e1
  have extNew : ∀ {o : Obj}, Ext B w (w.drew.alloc o) := fun {o} => ⟨rfl, rfl, rfl, by show w.heap.size ≤ (w.heap.push o).size; simp, fun kk hkk => by
    show (w.heap.push o)[kk]? = _
    rw [Array.getElem?_push, if_neg (by omega)]⟩
  have hxv := hq x
  unfold appTail at hev
  split at hev
  · rename_i e
    rw [e] at hxv; simp only [VR] at hxv
    by_cases hn0 : n = 0
    · subst hn0
      cases hev
      refine turns_val (runval (run_append_in (P := P) (w := w) t0 t1 (by rw [a0, hxv]) a1 up uxp hn hi (hlen w) (Nat.le_refl _) (by rw [hisz]; exact hfc w rfl) (w' := w) (by simp))) ?_ (Mu.le_refl _) hH (Ext.refl _ _) (Kp.refl _ _)
      simp only [VR]
    · have hb : Nat.beq n 0 = false := Bool.eq_false_iff.2 fun hh => hn0 (Nat.eq_of_beq_eq_true hh)
      rw [hb] at hev
      obtain ⟨hle, hev⟩ := cnd_inv (show cnd _ _ none = some _ from hev)
      have hle := Nat.le_of_ble_eq_true hle
      obtain ⟨hfree, hev⟩ := fresh_inv hev
      cases hev
      obtain ⟨cs, cp, hcp, hcs, hrun, hc⟩ := newBlock (base := none) (sLen := 0) (sCap := 0) (os := []) (old := []) hxv (by omega) (by omega) (fun w' _ => by simp [Builtin.firstCells]) .nil (by simp) rfl
      obtain ⟨e1, e2⟩ := HR.fresh (hH.world (w' := w.drew) rfl) hB hfree (w' := w.drew.alloc (.cells cs el)) rfl hnr (by simpa using hc)
      refine turns_val (runval hrun) ?_ e2 e1 extNew (Kp.new hfree)
      rw [Nat.zero_add]
      exact vr_newSl (w := w.drew) (Nat.le_refl _) (by omega) (fun hh => by cases hh) (by omega)
  · rename_i f g o len cap sz' ex e
    rw [e] at hxv; simp only [VR] at hxv
    obtain ⟨b, s, m, xo, c, hm, hxv, v1, v2, v3, hpl⟩ := hxv
    obtain ⟨hs', hev⟩ := cnd_inv hev
    have hs' := Nat.eq_of_beq_eq_true hs'
    subst hs'
    by_cases hn0 : n = 0
    · subst hn0
      cases hev
      have hvs0 : vs = [] := List.length_eq_zero_iff.1 (by rw [hvl]; simp)
      refine turns_val (runval (run_append_in (P := P) (w := w) t0 t1 (by rw [a0, hxv]) a1 up uxp hn hi (hlen w) (by omega) (by rw [hisz]; exact hfc w rfl) (w' := w) (by rw [hvs0]; simp [storeCells]))) ?_ (Mu.le_refl _) hH (Ext.refl _ _) (Kp.refl _ _)
      simp only [VR]
      exact ⟨b, s, m, xo, c, hm, rfl, v1, v2, v3, hpl⟩
    · have hb : Nat.beq n 0 = false := Bool.eq_false_iff.2 fun hh => hn0 (Nat.eq_of_beq_eq_true hh)
      rw [hb] at hev
      replace hev : appendSl (k + 1) f g o len cap ex new n h nx = some (Tn.mk a h' nx') := hev
      obtain ⟨hle, hev⟩ := cnd_inv hev
      have hle : len + n ≤ 1000000 := Nat.le_of_ble_eq_true hle
      obtain ⟨ro, gen, zz, dp, ext, t, ho, hev⟩ := asCells_some hev
      obtain ⟨hzz, hev⟩ := cnd_inv hev
      have hzz := Nat.eq_of_beq_eq_true hzz
      subst hzz
      obtain ⟨hmod, hev⟩ := cnd_inv hev
      have hmod : o % (k + 1) = 0 := Nat.eq_of_beq_eq_true hmod
      have e1 : o / (k + 1) * (k + 1) + o % (k + 1) = o := Nat.div_add_mod' o (k + 1)
      obtain ⟨hwf, hgen, hblk⟩ := hH.cells ho
      obtain ⟨hBb, hs0, cs, ce, fz, hheap, hfz, hcsz, hrows⟩ := hblk g b s m hm
      -- in place
      have inPlace : s ≤ o → xo = o - s → xo + c * (k + 1) ≤ m → len + n ≤ c → rowsScalar new = true →
          xo + len * (k + 1) + vs.length ≤ cs.size ∧ (Builtin.append_ ats ty (xs.map ρ)).run P w = .ok (.slice (some ⟨b, xo, none⟩) (len + n) c) (World.put w b (.cells (spliceA cs (xo + len * (k + 1)) vs) ce fz)) := by
        intro p1 p2 p3 p4 p5
        have hroom : xo + len * (k + 1) + vs.length ≤ cs.size := by
          rw [hcsz, hvl]
          have : (len + n) * (k + 1) ≤ c * (k + 1) := Nat.mul_le_mul_right _ p4
          rw [Nat.add_mul] at this; omega
        refine ⟨hroom, run_append_in (P := P) (w := w) t0 t1 (by rw [a0, hxv]) a1 up uxp hn hi (hlen w) p4 (by rw [hisz]; exact hfc w rfl) ?_⟩
        show (storeCells ((⟨b, xo, none⟩ : Addr).add (len * i.size)) vs).run P w = _
        rw [add_zero_spot, hisz]
        exact run_storeCells' vs 0 (xo + len * (k + 1)) cs w hheap hfz (by omega) (rowsScalar_of p5 hvs)
      by_cases hcap : Nat.ble (Nat.add len n) cap = true
      · rw [hcap] at hev
        obtain ⟨hro, hev⟩ := cnd_inv' (show cnd ro none _ = some _ from hev)
        subst hro
        obtain ⟨hg, hev⟩ := cnd_inv hev
        have hg := Nat.eq_of_beq_eq_true hg
        subst hg
        obtain ⟨hsc, hev⟩ := cnd_inv hev
        obtain ⟨c', hov, hev⟩ := opt_inv hev
        cases hev
        have hcap : len + n ≤ cap := Nat.le_of_ble_eq_true hcap
        rcases hpl with ⟨p1, p2, p3⟩ | ⟨p1, p2⟩
        · obtain ⟨q1, q2⟩ := inPlace p1 p2 p3 (by omega) hsc
          have hsr : s ≤ (o / (k + 1) + len) * (k + 1) := by rw [Nat.add_mul]; omega
          obtain ⟨r1, r2⟩ := overRows_HR hH ho hm hsr hov hnr (by omega) (Nat.succ_pos k) hvs hheap
          have hpos : (o / (k + 1) + len) * (k + 1) - s = xo + len * (k + 1) := by rw [Nat.add_mul]; omega
          rw [hpos] at r2
          refine turns_val (runval q2) ?_ (Mu.le_refl _) r2 (Ext.put (hBb rfl)) (Kp.set rfl)
          simp only [VR]
          exact ⟨b, s, m, xo, c, hm, rfl, hcap, v2, v3, .inl ⟨p1, p2, p3⟩⟩
        · omega
      · have hcap' := Bool.eq_false_iff.2 hcap
        rw [hcap'] at hev
        have hgt : cap < len + n := Nat.lt_of_not_le fun hh => hcap (Nat.ble_eq_true_of_le hh)
        -- the rows that are there
        have olds : ∀ {old : List (List AV)}, getRows t g len (o / (k + 1)) = some old → old.length = len ∧ (∀ l ∈ old, l.length = k + 1) ∧ ∃ os : List Value, VRs μ (flat old) os ∧ ∀ w', w'.heap = w.heap → (Builtin.firstCells i.size len (.slice (some ⟨b, xo, none⟩) len c)).run P w' = .ok os.toArray w' := by
          intro old hold
          rcases hpl with ⟨p1, p2, p3⟩ | ⟨p1, p2⟩
          · obtain ⟨q1, q2, cs', ce', fz', q3, os, q4, q5, q6⟩ := rows_load hH ho hm p1 hmod hold
            refine ⟨q1, q2, os, q4, fun w' hw' => ?_⟩
            show (loadCells ⟨b, xo, none⟩ (len * i.size)).run P w' = _
            rw [hisz, ← q5, p2]
            exact run_load_block (by rw [hw']; exact q3) q6
          · subst p1
            cases hold
            refine ⟨rfl, by simp, [], .nil, fun w' _ => ?_⟩
            show (loadCells ⟨b, xo, none⟩ (0 * i.size)).run P w' = _
            rw [Nat.zero_mul]; rfl
        cases hex : ex with
        | true =>
          rw [hex] at hev
          obtain ⟨old, hold, hev⟩ := opt_inv (show opt (getRows t g len (o / (k + 1))) none _ = some _ from hev)
          obtain ⟨hfree, hev⟩ := fresh_inv hev
          cases hev
          have hcc := v3 hex
          obtain ⟨o1, o2, os, o3, o4⟩ := olds hold
          obtain ⟨cs2, cp, hcp, hcs2, hrun, hc⟩ := newBlock hxv (by omega) hle o4 o3 o2 o1
          obtain ⟨f1, f2⟩ := HR.fresh (hH.world (w' := w.drew) rfl) hB hfree (w' := w.drew.alloc (.cells cs2 el)) (ls := old ++ new) rfl
            (fun l hl => by rcases List.mem_append.1 hl with h1 | h1; exact o2 l h1; exact hnr l h1) hc
          refine turns_val (runval hrun) ?_ f2 f1 extNew (Kp.new hfree)
          exact vr_newSl (w := w.drew) (Nat.le_refl _) hcp (fun hh => by cases hh) (by omega)
        | false =>
          rw [hex] at hev
          obtain ⟨hro, hev⟩ := cnd_inv' (show cnd ro none _ = some _ from hev)
          subst hro
          obtain ⟨hg, hev⟩ := cnd_inv hev
          have hg := Nat.eq_of_beq_eq_true hg
          subst hg
          obtain ⟨hext, hev⟩ := cnd_inv hev
          have hext : ext = o / (k + 1) + len := Nat.eq_of_beq_eq_true hext
          obtain ⟨hsc0, hev⟩ := cnd_inv hev
          obtain ⟨hns, hsc⟩ : g + 1 ≠ strGen ∧ rowsScalar new = true := by
            cases hb : Nat.beq (Nat.succ g) strGen with
            | true => rw [hb] at hsc0; cases hsc0
            | false => rw [hb] at hsc0; exact ⟨fun e => (by rw [Nat.succ_eq_add_one, e, Nat.beq_refl] at hb; cases hb), hsc0⟩
          obtain ⟨old, hold, hev⟩ := opt_inv hev
          obtain ⟨dp', cg, g1, g2, g3, hev⟩ := growTo_inv _ _ _ hwf.1 hev
          cases hev
          have g3 : ext + n ≤ 2 ^ dp' := g3
          obtain ⟨o1, o2, os, o3, o4⟩ := olds hold
          obtain ⟨w1, w2⟩ := addRows_sound (gw := g + 1) new cg ext g1 (by rw [hnl]; exact g3)
          have w2' : ∀ kk, (addRows dp' (g + 1) cg ext new).get kk = if ext ≤ kk ∧ kk < ext + new.length then (new[kk - ext]?).map (Row.mk · (g + 1)) else t.get kk := fun kk => by rw [w2, g2]
          by_cases hin : len + n ≤ c
          · rcases hpl with ⟨p1, p2, p3⟩ | ⟨p1, p2⟩
            · obtain ⟨q1, q2⟩ := inPlace p1 p2 p3 hin hsc
              have hpos : ext * (k + 1) - s = xo + len * (k + 1) := by rw [hext, Nat.add_mul]; omega
              obtain ⟨r1, r2⟩ := HR.growIn hH hns ho hm hheap w1 hnr (by rw [hext, Nat.add_mul]; omega) (by rw [hpos]; exact q1) hvs w2'
              rw [hpos, hnl] at r1
              refine turns_val (runval q2) ?_ r2 r1 (Ext.put (hBb rfl)) (Kp.setIns rfl hm)
              simp only [VR]
              exact ⟨b, s, m, xo, c, Mu.ins_same _ _ _ _, rfl, Nat.le_refl _, hin, (fun hh => by cases hh), .inl ⟨p1, p2, p3⟩⟩
            · omega
          · obtain ⟨cs2, cp, hcp, hcs2, hrun, hc⟩ := newBlock hxv (by omega) hle o4 o3 o2 o1
            obtain ⟨f1, f2⟩ := HR.growNew (hH.world (w' := w.drew) rfl) hB ho hm (w' := w.drew.alloc (.cells cs2 el)) (old := old) (new := new) (o := o) rfl w1
              (fun l hl => by rcases List.mem_append.1 hl with h1 | h1; exact o2 l h1; exact hnr l h1) (Nat.succ_pos k) hmod (by rw [hext, o1])
              (fun ii l hl => by obtain ⟨gw, z1, _⟩ := (getRows_get len _ old hold).2 ii l hl; exact ⟨gw, z1⟩) hc w2'
            rw [hnl] at f1
            refine turns_val (runval hrun) ?_ f2 f1 extNew (Kp.setIns rfl hm)
            simp only [VR]
            exact ⟨w.heap.size, o, cs2.size, 0, cp, Mu.ins_same _ _ _ _, rfl, Nat.le_refl _, hcp, (fun hh => by cases hh), .inl ⟨Nat.le_refl _, by omega, by omega⟩⟩
  · cases hev
include hE hH hB hq in
theorem e_append {xs : Array Operand} {ats : Array TypeId} {st xt el : TypeId} {ts : List TypeId} {x y : Operand} {l : List Operand} {dx : TypeDesc} {k : Nat} {z : AV} (hx : xs.toList = x :: y :: l) (ht : ats.toList = st :: xt :: ts)
    (hu : E.und st = some (.slice el)) (hxt : E.und xt = some dx) (hn : ∀ kk, dx ≠ .int kk) (hsz : E.size el = some (k + 1)) (hz : zeroA E el = some z)
    (hz1 : Nat.beq z.cells.length (k + 1) = true) (hby : Nat.ble (bytesO E el) 1000000 = true) (hev : xAppend (k + 1) (q x) (q y) h nx L = some (Tn.mk a h' nx')) :
    Turns P ρ B μ h w ⟨d, .call { callee := .builtin .append, args := xs, argTypes := ats }, ty, pos, af, gd⟩ a h' := by
  obtain ⟨n, hl, hev⟩ := opt_inv hev
  obtain ⟨new, hnew, hev⟩ := opt_inv hev
  obtain ⟨hlen, hnl, hnr, vs, hvs, hfc⟩ := firstRows_sound (P := P) hH (hq y) hl (Nat.le_refl _) hnew
  exact e_appendT hE hH hB hq hx ht hu hxt hn hsz hz hz1 hby hlen hnl hnr hvs hfc hev
end
end Go.Ev

namespace Go.Ev
set_option linter.unusedVariables false
set_option linter.unusedSectionVars false
set_option linter.unusedSimpArgs false
variable [Val] [Fk]
mutual
theorem aveq_eq : ∀ (a b : AV), aveq a b = true → a = b
  | .any, b, h => by cases b <;> first | rfl | cases h
  | .bool x, b, h => by
    cases b <;> first | (cases h; done) | skip
    rename_i y; cases x <;> cases y <;> first | rfl | cases h
  | .int k n, b, h => by
    cases b <;> first | (cases h; done) | skip
    rename_i l m
    have h : cnd (keq k l) (ieq n m) false = true := h
    rw [cnd_eq] at h
    split at h
    · rename_i hk
      rw [keq_true hk]
      rw [ieq_eq] at h
      rw [of_decide_eq_true h]
    · cases h
  | .str s, b, h => by
    cases b <;> first | (cases h; done) | skip
    rename_i t
    have h : leq s t = true := h
    rw [leq_eq] at h
    rw [of_decide_eq_true h]
  | .ptr0, b, h => by cases b <;> first | rfl | cases h
  | .ptr f g o, b, h => by
    cases b <;> first | (cases h; done) | skip
    rename_i f' g' o'
    have h : cnd (Key.beq f f') (cnd (Nat.beq g g') (Nat.beq o o') false) false = true := h
    simp only [cnd_eq] at h
    split at h
    · rename_i h1
      split at h
      · rename_i h2
        rw [Key.beq_eq h1, Nat.eq_of_beq_eq_true h2, Nat.eq_of_beq_eq_true h]
      · cases h
    · cases h
  | .slice0, b, h => by cases b <;> first | rfl | cases h
  | .slice f g o l c s x, b, h => by
    cases b <;> first | (cases h; done) | skip
    rename_i f' g' o' l' c' s' x'
    have h : cnd (Key.beq f f') (cnd (Nat.beq g g') (cnd (Nat.beq o o') (cnd (Nat.beq l l') (cnd (Nat.beq c c') (cnd (Nat.beq s s') (cnd x x' (bnot x')) false) false) false) false) false) false = true := h
    simp only [cnd_eq] at h
    split at h <;> first | (cases h; done) | skip
    rename_i h1
    split at h <;> first | (cases h; done) | skip
    rename_i h2
    split at h <;> first | (cases h; done) | skip
    rename_i h3
    split at h <;> first | (cases h; done) | skip
    rename_i h4
    split at h <;> first | (cases h; done) | skip
    rename_i h5
    split at h <;> first | (cases h; done) | skip
    rename_i h6
    rw [Key.beq_eq h1, Nat.eq_of_beq_eq_true h2, Nat.eq_of_beq_eq_true h3, Nat.eq_of_beq_eq_true h4, Nat.eq_of_beq_eq_true h5, Nat.eq_of_beq_eq_true h6]
    cases x <;> cases x' <;> first | rfl | simp [bnot_eq] at h
  | .map0, b, h => by cases b <;> first | rfl | cases h
  | .map a, b, h => by
    cases b <;> first | (cases h; done) | skip
    rename_i b
    rw [Key.beq_eq (show Key.beq a b = true from h)]
  | .nilFunc, b, h => by cases b <;> first | rfl | cases h
  | .func fn a c, b, h => by
    cases b <;> first | (cases fn <;> cases h; done) | skip
    all_goals first
      | (cases fn with
        | yield l => cases h
        | fn F => cases F <;> cases h; done)
      | skip
    rename_i fn' a' c'
    cases fn with
    | yield l => cases h
    | fn F =>
      cases F <;> first | (cases h; done) | skip
      rename_i f
      cases fn' with
      | yield l => cases h
      | fn F' =>
        cases F' <;> first | (cases h; done) | skip
        rename_i f'
        have h : cnd (Nat.beq f f') (cnd (aveqs a a') (aveqs c c') false) false = true := h
        simp only [cnd_eq] at h
        split at h <;> first | (cases h; done) | skip
        rename_i h1
        split at h <;> first | (cases h; done) | skip
        rename_i h2
        rw [Nat.eq_of_beq_eq_true h1, aveqs_eq _ _ h2, aveqs_eq _ _ h]
  | .iface t v, b, h => by
    cases b <;> first | (cases h; done) | skip
    rename_i u w
    have h : cnd (Nat.beq t u) (aveq v w) false = true := h
    simp only [cnd_eq] at h
    split at h <;> first | (cases h; done) | skip
    rename_i h1
    rw [Nat.eq_of_beq_eq_true h1, aveq_eq _ _ h]
  | .nilIface, b, h => by cases b <;> first | rfl | cases h
  | .agg a, b, h => by
    cases b <;> first | (cases h; done) | skip
    rename_i b
    rw [aveqs_eq a b h]
  | .tuple a, b, h => by
    cases b <;> first | (cases h; done) | skip
    rename_i b
    rw [aveqs_eq a b h]
  | .top, b, h => by cases h
  | .ub, b, h => by cases h
  | .rng k lo hi, b, h => by
    cases b <;> first | (cases h; done) | skip
    rename_i l lo' hi'
    have h : cnd (keq k l) (cnd (ieq lo lo') (ieq hi hi') false) false = true := h
    simp only [cnd_eq] at h
    split at h <;> first | (cases h; done) | skip
    rename_i h1
    split at h <;> first | (cases h; done) | skip
    rename_i h2
    rw [ieq_eq] at h2 h
    rw [keq_true h1, of_decide_eq_true h2, of_decide_eq_true h]
  | .md k m r, b, h => by
    cases b <;> first | (cases h; done) | skip
    rename_i l m' r'
    have h : cnd (keq k l) (cnd (Nat.beq m m') (Nat.beq r r') false) false = true := h
    simp only [cnd_eq] at h
    split at h <;> first | (cases h; done) | skip
    rename_i h1
    split at h <;> first | (cases h; done) | skip
    rename_i h2
    rw [keq_true h1, Nat.eq_of_beq_eq_true h2, Nat.eq_of_beq_eq_true h]
  | .sx k f c lo hi, b, h => by
    cases b <;> first | (cases h; done) | skip
    rename_i l f' c' lo' hi'
    have h : cnd (keq k l) (cnd (Key.beq f f') (cnd (ieq c c') (cnd (ieq lo lo') (ieq hi hi') false) false) false) false = true := h
    simp only [cnd_eq] at h
    split at h <;> first | (cases h; done) | skip
    rename_i h1
    split at h <;> first | (cases h; done) | skip
    rename_i h2
    split at h <;> first | (cases h; done) | skip
    rename_i h3
    split at h <;> first | (cases h; done) | skip
    rename_i h4
    rw [ieq_eq] at h3 h4 h
    rw [keq_true h1, Key.beq_eq h2, of_decide_eq_true h3, of_decide_eq_true h4, of_decide_eq_true h]
  | .le _ _ _, b, h => by cases h
  | .eqv _ _ _, b, h => by cases h
  | .stx a, b, h => by
    cases b <;> first | (cases h; done) | skip
    rename_i b
    rw [aveqs_eq a b h]
  | .sl _ _, b, h => by cases h
  | .nsl f g s k c q d m, b, h => by
    cases b <;> first | (cases h; done) | skip
    rename_i f' g' s' k' c' q' d' m'
    have h : cnd (Key.beq f f') (cnd (Nat.beq g g') (cnd (Nat.beq s s') (cnd (Key.beq k k') (cnd (ieq c c') (cnd (Key.beq q q') (cnd (ieq d d') (ieq m m') false) false) false) false) false) false) false = true := h
    simp only [cnd_eq] at h
    split at h <;> first | (cases h; done) | skip
    rename_i h1
    split at h <;> first | (cases h; done) | skip
    rename_i h2
    split at h <;> first | (cases h; done) | skip
    rename_i h3
    split at h <;> first | (cases h; done) | skip
    rename_i h4
    split at h <;> first | (cases h; done) | skip
    rename_i h5
    split at h <;> first | (cases h; done) | skip
    rename_i h6
    split at h <;> first | (cases h; done) | skip
    rename_i h7
    rw [ieq_eq] at h5 h7 h
    rw [Key.beq_eq h1, Nat.eq_of_beq_eq_true h2, Nat.eq_of_beq_eq_true h3, Key.beq_eq h4, of_decide_eq_true h5, Key.beq_eq h6, of_decide_eq_true h7, of_decide_eq_true h]
  | .nix f g s k c o, b, h => by
    cases b <;> first | (cases h; done) | skip
    rename_i f' g' s' k' c' o'
    have h : cnd (Key.beq f f') (cnd (Nat.beq g g') (cnd (Nat.beq s s') (cnd (Key.beq k k') (cnd (ieq c c') (Nat.beq o o') false) false) false) false) false = true := h
    simp only [cnd_eq] at h
    split at h <;> first | (cases h; done) | skip
    rename_i h1
    split at h <;> first | (cases h; done) | skip
    rename_i h2
    split at h <;> first | (cases h; done) | skip
    rename_i h3
    split at h <;> first | (cases h; done) | skip
    rename_i h4
    split at h <;> first | (cases h; done) | skip
    rename_i h5
    rw [ieq_eq] at h5
    rw [Key.beq_eq h1, Nat.eq_of_beq_eq_true h2, Nat.eq_of_beq_eq_true h3, Key.beq_eq h4, of_decide_eq_true h5, Nat.eq_of_beq_eq_true h]
  | .stq q, b, h => by
    cases b <;> first | (cases h; done) | skip
    rw [Key.beq_eq h]
theorem aveqs_eq : ∀ (a b : List AV), aveqs a b = true → a = b
  | [], b, h => by cases b <;> first | rfl | cases h
  | x :: a, b, h => by
    cases b with
    | nil => cases h
    | cons y b =>
      have h : cnd (aveq x y) (aveqs a b) false = true := h
      simp only [cnd_eq] at h
      split at h <;> first | (cases h; done) | skip
      rename_i h1
      rw [aveq_eq _ _ h1, aveqs_eq _ _ h]
end
theorem detC_bits {μ : Mu} {X : AV} {u v : Value} (n : Nat) (hd : detC X = true) (hu : VR μ X u) (hv : VR μ X v) : Instr.sameBits n u v = true := by
  cases X <;> first | (cases hd; done) | skip
  · simp only [VR] at hu hv; subst hu hv; simp [Instr.sameBits]
  · simp only [VR] at hu hv; subst hu hv; simp [Instr.sameBits]
  · simp only [VR] at hu hv
    obtain ⟨x, rfl, h1⟩ := hu
    obtain ⟨y, rfl, h2⟩ := hv
    have : x = y := by
      cases x; cases y
      simp only [ByteArray.mk.injEq]
      apply Array.toList_inj.1
      exact map_inj (h1.trans h2.symm)
    subst this
    simp only [Instr.sameBits]
    show (x.data == x.data) = true
    simp
  · simp only [VR] at hu hv; subst hu hv; simp [Instr.sameBits]
  · simp only [VR] at hu hv
    obtain ⟨b, s, m, h1, _, rfl⟩ := hu
    obtain ⟨b', s', m', h2, _, rfl⟩ := hv
    rw [h1] at h2
    cases h2
    simp [Instr.sameBits]
theorem keyBits_sound {μ : Mu} {X Y : AV} {u v : Value} (hk : keyBits X Y = true) (hu : VR μ X u) (hv : VR μ Y v) : Instr.sameBits 10000 v u = true := by
  replace hk : cnd (aveq X Y) (cnd (detC X) true (asAgg X false allDet)) false = true := hk
  simp only [cnd_eq] at hk
  split at hk <;> first | (cases hk; done) | skip
  rename_i h1
  have := aveq_eq _ _ h1
  subst this
  split at hk
  · rename_i h2; exact detC_bits _ h2 hv hu
  · rcases (by cases X <;> first | exact .inl ⟨_, rfl⟩ | exact .inr (fun l h => by cases h) : (∃ l, X = .agg l) ∨ ∀ l, X ≠ .agg l) with ⟨l, rfl⟩ | hn
    · have hk : allDet l = true := hk
      simp only [VR] at hu hv
      obtain ⟨us, rfl, hu⟩ := hu
      obtain ⟨vs, rfl, hv⟩ := hv
      have key : ∀ (l : List AV) (us vs : List Value), allDet l = true → VRs μ l us → VRs μ l vs → us.length = vs.length ∧ ((vs.zip us).all fun (x, y) => Instr.sameBits 9999 x y) = true := by
        intro l
        induction l with
        | nil => intro us vs _ h1 h2; rw [h1.nil_inv, h2.nil_inv]; simp
        | cons a l ih =>
          intro us vs hd h1 h2
          obtain ⟨u, us, rfl, h1, h1'⟩ := h1.cons_inv
          obtain ⟨v, vs, rfl, h2, h2'⟩ := h2.cons_inv
          have hd : cnd (detC a) (allDet l) false = true := hd
          simp only [cnd_eq] at hd
          split at hd <;> first | (cases hd; done) | skip
          rename_i hd1
          obtain ⟨e1, e2⟩ := ih us vs hd h1' h2'
          refine ⟨by simp [e1], ?_⟩
          simp only [List.zip_cons_cons, List.all_cons, Bool.and_eq_true]
          exact ⟨detC_bits 9999 hd1 h2 h1, e2⟩
      obtain ⟨e1, e2⟩ := key l us.toList vs.toList hk hu hv
      show (vs.size == us.size && _) = true
      simp only [Bool.and_eq_true, beq_iff_eq]
      exact ⟨by simpa using e1.symm, e2⟩
    · exfalso
      have : asAgg X false allDet = false := by cases X <;> first | rfl | exact absurd rfl (hn _)
      rw [this] at hk; cases hk
section
variable {μ : Mu}
theorem EnsR.append : ∀ {es fs : List En} {xs ys : List MapEntry}, EnsR μ es xs → EnsR μ fs ys → EnsR μ (es ++ fs) (xs ++ ys)
  | [], fs, xs, ys, h, k => by simp only [EnsR] at h; subst h; exact k
  | e :: es, fs, xs, ys, h, k => by
    simp only [EnsR] at h
    obtain ⟨x, r, rfl, h1, h2⟩ := h
    show EnsR μ (e :: (es ++ fs)) (x :: (r ++ ys))
    simp only [EnsR]
    exact ⟨x, _, rfl, h1, h2.append k⟩
theorem EnsR.one {e : En} {x : MapEntry} (h : EnR μ e x) : EnsR μ [e] [x] := by
  simp only [EnsR]; exact ⟨x, [], rfl, h, rfl⟩
theorem EnsR.set : ∀ {es : List En} {xs : List MapEntry} (i : Nat) {e : En} {x : MapEntry}, EnsR μ es xs → EnR μ e x → EnsR μ (es.set i e) (xs.set i x)
  | [], xs, i, e, x, h, k => by simp only [EnsR] at h; subst h; simp [EnsR]
  | a :: es, xs, 0, e, x, h, k => by
    simp only [EnsR] at h
    obtain ⟨y, r, rfl, h1, h2⟩ := h
    simp only [List.set_cons_zero, EnsR]; exact ⟨x, r, rfl, k, h2⟩
  | a :: es, xs, i + 1, e, x, h, k => by
    simp only [EnsR] at h
    obtain ⟨y, r, rfl, h1, h2⟩ := h
    simp only [List.set_cons_succ, EnsR]; exact ⟨y, _, rfl, h1, h2.set i k⟩
theorem EnsR.erase : ∀ {es : List En} {xs : List MapEntry} (i : Nat), EnsR μ es xs → EnsR μ (es.eraseIdx i) (xs.eraseIdx i)
  | [], xs, i, h => by simp only [EnsR] at h; subst h; simp [EnsR]
  | a :: es, xs, 0, h => by
    simp only [EnsR] at h
    obtain ⟨y, r, rfl, h1, h2⟩ := h
    simpa using h2
  | a :: es, xs, i + 1, h => by
    simp only [EnsR] at h
    obtain ⟨y, r, rfl, h1, h2⟩ := h
    simp only [List.eraseIdx_cons_succ, EnsR]; exact ⟨y, _, rfl, h1, h2.erase i⟩
end
end Go.Ev

namespace Go.Ev
set_option linter.unusedVariables false
set_option linter.unusedSectionVars false
set_option linter.unusedSimpArgs false
variable [Val] [Fk]
theorem lenA_sound {P : Program} {μ : Mu} {X : AV} {v : Value} {n : Nat} (hx : VR μ X v) (hl : lenA X = some n) : ∀ w', (Builtin.lenOf v).run P w' = .ok n w' := by
  intro w'
  unfold lenA at hl
  split at hl
  · cases hl; simp only [VR] at hx; obtain ⟨b, s, m, x, c, _, rfl, _⟩ := hx; simp [Builtin.lenOf]
  · cases hl; simp only [VR] at hx; subst hx; simp [Builtin.lenOf]
  · cases hl; simp only [VR] at hx; obtain ⟨b, rfl, hb⟩ := hx; simp only [Builtin.lenOf, Sem.run_pure]; congr 1; rw [← hb]; simp
  · cases hl
section
variable {E : Env} {P : Program} (hE : EnvOk E P) {B : Nat} {μ : Mu} {h : Hp} {w : World} (hH : HR B μ h w) {nx : Key} (hB : B ≤ w.heap.size)
  {L : Lo} {ρ : Operand → Value} {q : Operand → Opd} (hq : ∀ x, VR μ (getO (q x) L) (ρ x))
variable {d : Option Tmp} {ty : TypeId} {pos : String} {af : Array Edge} {gd : Option (Nat × Bool)} {a : AV} {h' : Hp} {nx' : Key}
include hE hH hq in
theorem e_copyT {xs : Array Operand} {ats : Array TypeId} {st el : TypeId} {ts : List TypeId} {x y : Operand} {l : List Operand} {k : Nat} (hx : xs.toList = x :: y :: l) (ht : ats.toList = st :: ts)
    (hu : E.und st = some (.slice el)) (hsz : E.size el = some (k + 1)) {m n : Nat} {rows : List (List AV)} {vs : List Value} (hm1 : lenS (getO (q x) L) = some m) (hlen : ∀ w', (Builtin.lenOf (ρ y)).run P w' = .ok n w') (hnl : rows.length = Nat.min n m) (hnr : ∀ l ∈ rows, l.length = k + 1) (hvs : VRs μ (flat rows) vs)
    (hfc : ∀ w', w'.heap = w.heap → (Builtin.firstCells (k + 1) (Nat.min n m) (ρ y)).run P w' = .ok vs.toArray w') (hev : copyTail (k + 1) (getO (q x) L) (Nat.min n m) rows h nx = some (Tn.mk a h' nx')) :
    Turns P ρ B μ h w ⟨d, .call { callee := .builtin .copy, args := xs, argTypes := ats }, ty, pos, af, gd⟩ a h' := by
  have a0 : (xs.map ρ)[0]? = some (ρ x) := by rw [← Array.getElem?_toList]; simp [hx]
  have a1 : (xs.map ρ)[1]? = some (ρ y) := by rw [← Array.getElem?_toList]; simp [hx]
  have t0 : ats[0]? = some st := by rw [← Array.getElem?_toList]; simp [ht]
  unfold copyTail at hev
  have hvl : vs.length = Nat.min n m * (k + 1) := by rw [← hvs.length, flat_length rows hnr, hnl]
  have runs : ∀ {base : Option Addr} {c : Nat} {w' : World}, ρ x = .slice base m c → (match base with | some a => storeCells a vs | none => pure () : Sem Unit).run P w = .ok () w' →
      (execOp ρ ⟨d, .call { callee := .builtin .copy, args := xs, argTypes := ats }, ty, pos, af, gd⟩).run P w = .ok (.value (.int .i64 ((Nat.min n m : Nat) : Int))) w' := by
    intro base c w' hxx hst
    refine run_builtin (s := Builtin.copy_ ats ty (xs.map ρ)) rfl ?_
    rw [hxx] at a0
    unfold Builtin.copy_
    simp only [t0, a0, a1, Sem.run_bind, hE.runUnd hu, Result.andThen_ok, Sem.run_pure, hlen, hE.runSize hsz, hfc w rfl]
    cases base with
    | none => simp only [Sem.run_pure, Result.ok.injEq, true_and] at hst; subst hst; simp [goInt]
    | some ad => simp only [Sem.run_bind, hst, Result.andThen_ok, Sem.run_pure, goInt]
  have hxv := hq x
  by_cases hk0 : Nat.min n m = 0
  · have hb : Nat.beq (Nat.min n m) 0 = true := by rw [hk0]; rfl
    rw [hb] at hev
    cases hev
    have hv0 : vs = [] := List.length_eq_zero_iff.1 (by rw [hvl, hk0]; simp)
    have hsl : ∃ base c, ρ x = .slice base m c := by
      unfold lenS at hm1
      split at hm1
      · rename_i e; cases hm1; rw [e] at hxv; simp only [VR] at hxv; obtain ⟨b, s, q1, xo, c, _, hxv, _⟩ := hxv; exact ⟨_, _, hxv⟩
      · rename_i e; cases hm1; rw [e] at hxv; simp only [VR] at hxv; exact ⟨_, _, hxv⟩
      · cases hm1
    obtain ⟨base, c, hxx⟩ := hsl
    refine turns_val (runs (w' := w) hxx (by rw [hv0]; cases base <;> simp [storeCells])) ?_ (Mu.le_refl _) hH (Ext.refl _ _) (Kp.refl _ _)
    rw [hk0]; simp only [VR]; rfl
  · have hb : Nat.beq (Nat.min n m) 0 = false := Bool.eq_false_iff.2 fun hh => hk0 (Nat.eq_of_beq_eq_true hh)
    rw [hb] at hev
    simp only [cnd_false] at hev
    split at hev
    · rename_i f g o ln cp sz' ex e
      rw [e] at hxv hm1; simp only [VR] at hxv
      cases hm1
      obtain ⟨b, s, mm, xo, c, hm, hxv, v1, v2, v3, hpl⟩ := hxv
      replace hev := cnd_inv hev
      have hs' := Nat.eq_of_beq_eq_true hev.1
      subst hs'
      replace hev := asCells_some hev.2
      obtain ⟨ro, gen, zz, dp, ext, t, ho, hev⟩ := hev
      replace hev := cnd_inv' hev
      obtain ⟨hro, hev⟩ := hev
      subst hro
      replace hev := cnd_inv hev
      have hg := Nat.eq_of_beq_eq_true hev.1
      subst hg
      replace hev := cnd_inv hev.2
      have hzz := Nat.eq_of_beq_eq_true hev.1
      subst hzz
      replace hev := cnd_inv hev.2
      obtain ⟨hmod, hev⟩ := hev
      have hmod : o % (k + 1) = 0 := Nat.eq_of_beq_eq_true hmod
      obtain ⟨hsc, hev⟩ := cnd_inv hev
      obtain ⟨c', hov, hev⟩ := opt_inv hev
      cases hev
      have e1 : o / (k + 1) * (k + 1) + o % (k + 1) = o := Nat.div_add_mod' o (k + 1)
      obtain ⟨hwf, hgen, hblk⟩ := hH.cells ho
      obtain ⟨hBb, hs0, cs, ce, fz, hheap, hfz, hcsz, hrws⟩ := hblk g b s mm hm
      rcases hpl with ⟨p1, p2, p3⟩ | ⟨p1, p2⟩
      · have hrp : 0 < rows.length := by rw [hnl]; exact Nat.pos_of_ne_zero hk0
        obtain ⟨r1, r2⟩ := overRows_HR hH ho hm (start_le hs0 p1) hov hnr hrp (Nat.succ_pos k) hvs hheap
        have hpos : o / (k + 1) * (k + 1) - s = xo := by omega
        rw [hpos] at r1 r2
        subst p2
        refine turns_val (runs hxv (run_storeCells' vs 0 (o - s) cs w hheap hfz (by omega) (rowsScalar_of hsc hvs))) ?_ (Mu.le_refl _) r2 (Ext.put (hBb rfl)) (Kp.set rfl)
        simp only [VR]; rfl
      · exfalso
        apply hk0
        rw [p1]; exact Nat.min_zero n
    · cases hev
include hE hH hq in
theorem e_copy {xs : Array Operand} {ats : Array TypeId} {st el : TypeId} {ts : List TypeId} {x y : Operand} {l : List Operand} {k : Nat} (hx : xs.toList = x :: y :: l) (ht : ats.toList = st :: ts)
    (hu : E.und st = some (.slice el)) (hsz : E.size el = some (k + 1)) (hev : xCopy (k + 1) (q x) (q y) h nx L = some (Tn.mk a h' nx')) :
    Turns P ρ B μ h w ⟨d, .call { callee := .builtin .copy, args := xs, argTypes := ats }, ty, pos, af, gd⟩ a h' := by
  obtain ⟨m, hm1, hev⟩ := opt_inv hev
  obtain ⟨n, hn1, hev⟩ := opt_inv hev
  obtain ⟨rows, hrows, hev⟩ := opt_inv hev
  obtain ⟨hlen, hnl, hnr, vs, hvs, hfc⟩ := firstRows_sound (P := P) hH (hq y) hn1 (Nat.min_le_left _ _) hrows
  exact e_copyT hE hH hq hx ht hu hsz hm1 hlen hnl hnr hvs hfc hev
/-! ## maps -/
include hH in
theorem HR.mapTurn {f : Key} {es : List En} {clock : Nat} (ho : hget f h = .map es clock) {b s n : Nat} (hm : μ f 0 = some (b, s, n)) {es' : List En} {xs' : Array MapEntry} {clock' : Nat} (hR : EnsR μ es' xs'.toList) :
    HR B μ (hset f (.map es' clock') h) (World.put w b (.map xs' clock')) ∧ Ext B w (World.put w b (.map xs' clock')) := by
  have hO := hH.obj f
  rw [ho] at hO
  obtain ⟨h1, h2⟩ := hO
  obtain ⟨hb, _⟩ := h2 b s n hm
  refine ⟨hH.turn hm hb rfl ⟨h1, fun b1 s1 n1 hm1 => ?_⟩, Ext.put hb⟩
  rw [hm] at hm1
  simp only [Option.some.injEq, Prod.mk.injEq] at hm1
  obtain ⟨rfl, rfl, rfl⟩ := hm1
  exact ⟨hb, xs', put_get (hH.lt _ _ _ _ _ hm), hR⟩
theorem kTy_inv {t kt : TypeId} {el : TypeId} {X : AV} {es : List En} {r : Option (Nat × En)} (hu : E.und t = some (.map kt el)) (hf : findK E (kTy E t) X es = some r) : kTy E t = tyOf E 8 kt ∧ keyTy (tyOf E 8 kt) = true := by
  unfold kTy at hf ⊢
  rw [hu] at hf ⊢
  simp only at hf ⊢
  cases hk : keyTy (tyOf E 8 kt) with
  | true => exact ⟨rfl, rfl⟩
  | false =>
    rw [hk] at hf
    obtain ⟨h1, _⟩ := cnd_inv hf
    cases h1
theorem kTy_und {t : TypeId} {X : AV} {es : List En} {r : Option (Nat × En)} (hf : findK E (kTy E t) X es = some r) : ∃ kt el, E.und t = some (.map kt el) := by
  unfold kTy at hf
  split at hf
  · rename_i kt el hu; exact ⟨kt, el, hu⟩
  · obtain ⟨h1, _⟩ := cnd_inv hf; cases h1
include hE hH hq in
theorem e_mapUp {t : TypeId} {m k v : Operand} {ins : Bool} (hev : xMapUp E (kTy E t) (q m) (q k) (q v) h nx L = some (Tn.mk a h' nx')) :
    Turns P ρ B μ h w ⟨d, (if ins then .insert t m k v else .mapUpdate t m k v), ty, pos, af, gd⟩ a h' := by
  obtain ⟨f, hfm, hev⟩ : ∃ f, getO (q m) L = .map f ∧ _ := asMap_some hev
  obtain ⟨b, s, n, hm, hx⟩ := q_map hq hfm
  obtain ⟨es, clock, ho, hev⟩ := asMapO_some hev
  obtain ⟨r, hf, hev⟩ := opt_inv hev
  obtain ⟨kt, el, hu⟩ := kTy_und hf
  obtain ⟨hkt, hk⟩ := kTy_inv hu hf
  rw [hkt] at hf
  obtain ⟨hBb, xs, hxs, hR⟩ := hH.mapOb ho hm
  obtain ⟨r', g1, g2⟩ := findKey_sound hE hH (hq k) hR hf
  have g0 := checkK hE (w := w) false hk (hq k) hf
  have runs : ∀ {w' : World}, (Instr.mapUpdate t (ρ m) (ρ k) (ρ v)).run P w = .ok () w' → (execOp ρ ⟨d, (if ins then .insert t m k v else .mapUpdate t m k v), ty, pos, af, gd⟩).run P w = .ok .skip w' := by
    intro w' hr
    cases ins <;> exact run_unit hr
  cases r with
  | none =>
    cases hev
    simp only [FoundR] at g2; subst g2
    obtain ⟨z1, z2⟩ := hH.mapTurn ho hm (es' := es ++ [.mk (getO (q k) L) (getO (q v) L) clock]) (xs' := xs.push { key := ρ k, val := ρ v, born := clock }) (clock' := clock + 1) (by
      rw [Array.toList_push]; exact hR.append (.one ⟨hq k, hq v, rfl⟩))
    refine turns_skip (runs ?_) z1 z2 (Kp.set rfl)
    rw [hx]
    simp only [Instr.mapUpdate, Sem.run_bind, hE.runUnd hu, Result.andThen_ok, MapKept.run_getObj_map hxs, g0, g1, MapKept.run_setObj_map _ hxs]
    rfl
  | some p =>
    obtain ⟨i, e⟩ := p
    obtain ⟨hbits, hev⟩ := cnd_inv (show cnd _ _ none = some _ from hev)
    cases hev
    obtain ⟨y, _, g3, g4, g5, rfl⟩ := g2
    have hyi : xs[i]? = some y := by rw [← Array.getElem?_toList]; simpa using g4
    have hsb := keyBits_sound hbits (hq k) g5.1
    obtain ⟨z1, z2⟩ := hH.mapTurn ho hm (es' := es.set i (.mk (getO (q k) L) (getO (q v) L) e.b)) (xs' := xs.modify i fun e => { e with key := ρ k, val := ρ v }) (clock' := clock) (by
      have : (xs.modify i fun e => { e with key := ρ k, val := ρ v }).toList = xs.toList.set i { key := ρ k, val := ρ v, born := y.born } := by
        apply List.ext_getElem?
        intro j
        rw [Array.getElem?_toList, Array.getElem?_modify, List.getElem?_set]
        by_cases hj : i = j
        · subst hj
          obtain ⟨hlt, hye⟩ := Array.getElem?_eq_some_iff.1 hyi
          simp [hye, hlt]
        · simp [hj]
      rw [this]; exact hR.set i ⟨hq k, hq v, g5.2.2⟩)
    refine turns_skip (runs ?_) z1 z2 (Kp.set rfl)
    rw [hx]
    simp only [Instr.mapUpdate, Sem.run_bind, hE.runUnd hu, Result.andThen_ok, MapKept.run_getObj_map hxs, g0, g1, hyi, Option.map_some, Option.getD_some, Instr.keyThatStays, hsb, if_true, Sem.run_pure, MapKept.run_setObj_map _ hxs]
    rfl
include hE hH hq in
theorem e_mapEn {t kt el : TypeId} {m k : Operand} {z : AV} (hu : E.und t = some (.map kt el)) (hz : zeroA E el = some z) (hev : xMapEn E (kTy E t) z (q m) (q k) h nx L = some (Tn.mk a h' nx')) :
    Turns P ρ B μ h w ⟨d, .mapEntry t m k, ty, pos, af, gd⟩ a h' := by
  obtain ⟨f, hfm, hev⟩ : ∃ f, getO (q m) L = .map f ∧ _ := asMap_some hev
  obtain ⟨b, s, n, hm, hx⟩ := q_map hq hfm
  obtain ⟨es, clock, ho, hev⟩ := asMapO_some hev
  obtain ⟨r, hf, hev⟩ := opt_inv hev
  obtain ⟨hkt, hk⟩ := kTy_inv hu hf
  rw [hkt] at hf
  obtain ⟨hBb, xs, hxs, hR⟩ := hH.mapOb ho hm
  obtain ⟨r', g1, g2⟩ := findKey_sound hE hH (hq k) hR hf
  have g0 := checkK hE (w := w) false hk (hq k) hf
  obtain ⟨zv, hzv, rfl⟩ := hE.runZero hz w
  have runs : ∀ {v : Value} {w' : World}, (Instr.mapEntry t (ρ m) (ρ k)).run P w = .ok v w' → (execOp ρ ⟨d, .mapEntry t m k, ty, pos, af, gd⟩).run P w = .ok (.value v) w' := fun hr => run_val hr
  cases r with
  | none =>
    cases hev
    simp only [FoundR] at g2; subst g2
    obtain ⟨z1, z2⟩ := hH.mapTurn ho hm (es' := es ++ [.mk (getO (q k) L) (ofV zv) clock]) (xs' := xs.push { key := ρ k, val := zv, born := clock }) (clock' := clock + 1) (by
      rw [Array.toList_push]; exact hR.append (.one ⟨hq k, ofV_sound μ zv, rfl⟩))
    refine turns_val (v := .tuple #[zv, goInt clock]) (runs ?_) ?_ (Mu.le_refl _) z1 z2 (Kp.set rfl)
    · rw [hx]
      simp only [Instr.mapEntry, Sem.run_bind, hE.runUnd hu, Result.andThen_ok, MapKept.run_getObj_map hxs, g0, g1, hzv, MapKept.run_setObj_map _ hxs, Sem.run_pure]
      rfl
    · simp only [VR]; exact ⟨_, rfl, .cons (ofV_sound μ zv) (.cons (by simp only [VR]; rfl) .nil)⟩
  | some p =>
    obtain ⟨i, e⟩ := p
    obtain ⟨hbits, hev⟩ := cnd_inv (show cnd _ _ none = some _ from hev)
    cases hev
    obtain ⟨y, _, g3, g4, g5, rfl⟩ := g2
    have hyi : xs[i]? = some y := by rw [← Array.getElem?_toList]; simpa using g4
    have hsb := keyBits_sound hbits (hq k) g5.1
    obtain ⟨z1, z2⟩ := hH.mapTurn ho hm (es' := es.set i (.mk (getO (q k) L) e.v e.b)) (xs' := xs.modify i fun e => { e with key := ρ k }) (clock' := clock) (by
      have : (xs.modify i fun e => { e with key := ρ k }).toList = xs.toList.set i { key := ρ k, val := y.val, born := y.born } := by
        apply List.ext_getElem?
        intro j
        rw [Array.getElem?_toList, Array.getElem?_modify, List.getElem?_set]
        by_cases hj : i = j
        · subst hj
          obtain ⟨hlt, hye⟩ := Array.getElem?_eq_some_iff.1 hyi
          simp [hye, hlt]
        · simp [hj]
      rw [this]; exact hR.set i ⟨hq k, g5.2.1, g5.2.2⟩)
    refine turns_val (v := .tuple #[y.val, goInt y.born]) (runs ?_) ?_ (Mu.le_refl _) z1 z2 (Kp.set rfl)
    · rw [hx]
      simp only [Instr.mapEntry, Sem.run_bind, hE.runUnd hu, Result.andThen_ok, MapKept.run_getObj_map hxs, g0, g1, hyi, Option.map_some, Option.getD_some, Instr.keyThatStays, hsb, if_true, Sem.run_pure, MapKept.run_setObj_map _ hxs]
      rfl
    · simp only [VR]; exact ⟨_, rfl, .cons g5.2.1 (.cons (by simp only [VR, goInt]; rw [← g5.2.2]; rfl) .nil)⟩
theorem setE_sound {b : Nat} {X : AV} {v : Value} (hv : VR μ X v) : ∀ (es : List En) (xs : List MapEntry) (l : List En), EnsR μ es xs → setE b X es = some l →
    ∃ i x, xs.findIdx? (fun e => (e.born : Int) == (b : Int)) = some i ∧ xs[i]? = some x ∧ EnsR μ l (xs.set i { x with val := v })
  | [], xs, l, hes, hs => by cases hs
  | .mk x y c :: es, xs, l, hes, hs => by
    simp only [EnsR] at hes
    obtain ⟨e, r, rfl, h1, h2⟩ := hes
    unfold setE at hs
    rw [cnd_eq] at hs
    split at hs
    · rename_i hb
      cases hs
      have hb := Nat.eq_of_beq_eq_true hb
      have hborn : e.born = c := h1.2.2.symm
      refine ⟨0, e, ?_, rfl, ?_⟩
      · rw [List.findIdx?_cons, if_pos]; simp [hborn, hb]
      · simp only [List.set_cons_zero, EnsR]
        exact ⟨_, r, rfl, ⟨h1.1, hv, h1.2.2⟩, h2⟩
    · rename_i hb
      split at hs
      · rename_i l' hl
        cases hs
        obtain ⟨i, x', g1, g2, g3⟩ := setE_sound hv es r l' h2 hl
        have hborn : e.born = c := h1.2.2.symm
        refine ⟨i + 1, x', ?_, by simpa using g2, ?_⟩
        · rw [List.findIdx?_cons, if_neg, g1]
          · rfl
          · simp only [hborn, beq_iff_eq]
            intro hh
            have : b = c := by omega
            rw [this] at hb; simp at hb
        · simp only [List.set_cons_succ, EnsR]
          exact ⟨e, _, rfl, h1, g3⟩
      · cases hs
include hE hH hq in
theorem e_enStore {t : TypeId} {m s v : Operand} (hev : xEnStore (q m) (q s) (q v) h nx L = some (Tn.mk a h' nx')) : Turns P ρ B μ h w ⟨d, .entryStore t m s v, ty, pos, af, gd⟩ a h' := by
  obtain ⟨f, hfm, hev⟩ : ∃ f, getO (q m) L = .map f ∧ _ := asMap_some hev
  obtain ⟨b, st, n, hm, hx⟩ := q_map hq hfm
  obtain ⟨kk, i0, hs, hev⟩ := idx_q hq hev
  obtain ⟨es, clock, ho, hev⟩ := asMapO_some hev
  obtain ⟨l, hl, hev⟩ := opt_inv hev
  cases hev
  obtain ⟨hBb, xs, hxs, hR⟩ := hH.mapOb ho hm
  obtain ⟨i, y, g1, g2, g3⟩ := setE_sound (hq v) es xs.toList l hR hl
  have hyi : xs[i]? = some y := by rw [← Array.getElem?_toList]; exact g2
  obtain ⟨z1, z2⟩ := hH.mapTurn ho hm (es' := l) (xs' := xs.modify i fun e => { e with val := ρ v }) (clock' := clock) (by
    have : (xs.modify i fun e => { e with val := ρ v }).toList = xs.toList.set i { y with val := ρ v } := by
      apply List.ext_getElem?
      intro j
      rw [Array.getElem?_toList, Array.getElem?_modify, List.getElem?_set]
      by_cases hj : i = j
      · subst hj
        obtain ⟨hlt, hye⟩ := Array.getElem?_eq_some_iff.1 hyi
        simp [hye, hlt]
      · simp [hj]
    rw [this]; exact g3)
  refine turns_skip (run_unit (s := Instr.entryStore t (ρ m) (ρ s) (ρ v)) ?_) z1 z2 (Kp.set rfl)
  rw [hx, hs]
  have hfi : xs.findIdx? (fun e => (e.born : Int) == (i0 : Int)) = some i := by obtain ⟨xl⟩ := xs; rw [List.findIdx?_toArray]; exact g1
  simp only [Instr.entryStore, Sem.run_bind, Result.andThen_ok, MapKept.run_getObj_map hxs, Go.asInt, asIntOf, Sem.run_pure, hfi, MapKept.run_setObj_map _ hxs]
  rfl
include hE hH hq in
theorem e_del {t : TypeId} {mv kv : AV} {m k : Value} (hm' : VR μ mv m) (hk' : VR μ kv k) {xs : Array Value} {ats : Array TypeId} (a0 : xs[0]? = some m) (a1 : xs[1]? = some k) (t0 : ats[0]? = some t)
    (hev : delM E (kTy E t) mv kv h nx = some (Tn.mk a h' nx')) : a = undefA ∧ ∃ w', (Builtin.delete_ ats ty xs).run P w = .ok (.tuple #[]) w' ∧ HR B μ h' w' ∧ Ext B w w' ∧ Kp h μ h' μ := by
  unfold delM at hev
  split at hev
  · obtain ⟨r, hf, hev⟩ := opt_inv hev
    cases hev
    simp only [VR] at hm'
    obtain ⟨kt, el, hu⟩ := kTy_und hf
    obtain ⟨hkt, hk⟩ := kTy_inv hu hf
    rw [hkt] at hf
    have g0 := checkK hE (w := w) true hk hk' hf
    refine ⟨rfl, w, ?_, hH, Ext.refl _ _, Kp.refl _ _⟩
    subst hm'
    simp only [Builtin.delete_, t0, a0, a1, Sem.run_bind, hE.runUnd hu, Result.andThen_ok, g0, Sem.run_pure]
  · rename_i f
    simp only [VR] at hm'
    obtain ⟨b, s, n, hm, rfl⟩ := hm'
    obtain ⟨es, clock, ho, hev⟩ := asMapO_some hev
    obtain ⟨r, hf, hev⟩ := opt_inv hev
    obtain ⟨kt, el, hu⟩ := kTy_und hf
    obtain ⟨hkt, hk⟩ := kTy_inv hu hf
    rw [hkt] at hf
    obtain ⟨hBb, xs', hxs, hR⟩ := hH.mapOb ho hm
    obtain ⟨r', g1, g2⟩ := findKey_sound hE hH hk' hR hf
    have g0 := checkK hE (w := w) xs'.isEmpty hk hk' hf
    cases r with
    | none =>
      cases hev
      simp only [FoundR] at g2; subst g2
      obtain ⟨z1, z2⟩ := hH.mapTurn ho hm (es' := es) (xs' := xs') (clock' := clock) hR
      refine ⟨rfl, World.put w b (.map xs' clock), ?_, ?_, z2, Kp.refl _ _⟩
      · simp only [Builtin.delete_, t0, a0, a1, Sem.run_bind, hE.runUnd hu, Result.andThen_ok, MapKept.run_getObj_map hxs, g0, g1, MapKept.run_setObj_map _ hxs, Sem.run_pure]
        rfl
      · refine hH.world ?_
        obtain ⟨hlt, he⟩ := Array.getElem?_eq_some_iff.1 hxs
        show w.heap.setIfInBounds b (.map xs' clock) = w.heap
        apply Array.ext_getElem?
        intro j
        rw [Array.getElem?_setIfInBounds]
        by_cases hj : b = j
        · subst hj; simp [hlt, he]
        · simp [hj]
    | some p =>
      obtain ⟨i, e⟩ := p
      cases hev
      obtain ⟨y, _, g3, g4, g5, rfl⟩ := g2
      have hyi : xs'[i]? = some y := by rw [← Array.getElem?_toList]; simpa using g4
      obtain ⟨hlt, hye⟩ := Array.getElem?_eq_some_iff.1 hyi
      obtain ⟨z1, z2⟩ := hH.mapTurn ho hm (es' := es.eraseIdx i) (xs' := xs'.eraseIdxIfInBounds i) (clock' := clock) (by
        have : (xs'.eraseIdxIfInBounds i).toList = xs'.toList.eraseIdx i := by
          rw [Array.eraseIdxIfInBounds, dif_pos hlt, Array.toList_eraseIdx]
        rw [this]; exact hR.erase i)
      refine ⟨rfl, World.put w b (.map (xs'.eraseIdxIfInBounds i) clock), ?_, z1, z2, Kp.set rfl⟩
      simp only [Builtin.delete_, t0, a0, a1, Sem.run_bind, hE.runUnd hu, Result.andThen_ok, MapKept.run_getObj_map hxs, g0, g1, MapKept.run_setObj_map _ hxs, Sem.run_pure]
      rfl
  · cases hev
include hE hH hq in
theorem e_delete {xs : Array Operand} {ats : Array TypeId} {t : TypeId} {ts : List TypeId} {x y : Operand} {l : List Operand} (hx : xs.toList = x :: y :: l) (ht : ats.toList = t :: ts)
    (hev : xDel E (kTy E t) (q x) (q y) h nx L = some (Tn.mk a h' nx')) : Turns P ρ B μ h w ⟨d, .call { callee := .builtin .delete, args := xs, argTypes := ats }, ty, pos, af, gd⟩ a h' := by
  have a0 : (xs.map ρ)[0]? = some (ρ x) := by rw [← Array.getElem?_toList]; simp [hx]
  have a1 : (xs.map ρ)[1]? = some (ρ y) := by rw [← Array.getElem?_toList]; simp [hx]
  have t0 : ats[0]? = some t := by rw [← Array.getElem?_toList]; simp [ht]
  obtain ⟨rfl, w', r1, r2, r3, r4⟩ := e_del (P := P) (ty := ty) hE hH hq (hq x) (hq y) a0 a1 t0 hev
  refine turns_val (v := .tuple #[]) (run_builtin (s := Builtin.delete_ ats ty (xs.map ρ)) rfl ?_) vr_undef (Mu.le_refl _) r2 r3 r4
  have : (Builtin.delete_ ats ty (xs.map ρ)).run P w = .ok (.tuple #[]) w' := r1
  exact this
include hE hH hq in
theorem e_clearM {xs : Array Operand} {ats : Array TypeId} {t kt el : TypeId} {ts : List TypeId} {x : Operand} {l : List Operand} (hx : xs.toList = x :: l) (ht : ats.toList = t :: ts)
    (hu : E.und t = some (.map kt el)) (hev : xClearM (q x) h nx L = some (Tn.mk a h' nx')) : Turns P ρ B μ h w ⟨d, .call { callee := .builtin .clear, args := xs, argTypes := ats }, ty, pos, af, gd⟩ a h' := by
  have a0 : (xs.map ρ)[0]? = some (ρ x) := head_args hx
  have t0 : ats[0]? = some t := head_types ht
  have hxv := hq x
  unfold xClearM at hev
  split at hev
  · rename_i e
    rw [e] at hxv; simp only [VR] at hxv
    cases hev
    refine turns_val (v := .tuple #[]) (run_builtin (s := Builtin.clear_ ats ty (xs.map ρ)) rfl (w' := w) ?_) vr_undef (Mu.le_refl _) hH (Ext.refl _ _) (Kp.refl _ _)
    simp [Builtin.clear_, t0, a0, hE.runUnd hu, hxv]
  · rename_i f e
    rw [e] at hxv; simp only [VR] at hxv
    obtain ⟨b, s, n, hm, hxv⟩ := hxv
    obtain ⟨es, clock, ho, hev⟩ := asMapO_some hev
    cases hev
    obtain ⟨hBb, xs', hxs, hR⟩ := hH.mapOb ho hm
    obtain ⟨z1, z2⟩ := hH.mapTurn ho hm (es' := []) (xs' := #[]) (clock' := clock) (by simp [EnsR])
    refine turns_val (v := .tuple #[]) (run_builtin (s := Builtin.clear_ ats ty (xs.map ρ)) rfl (w' := World.put w b (.map #[] clock)) ?_) vr_undef (Mu.le_refl _) z1 z2 (Kp.set rfl)
    simp only [Builtin.clear_, t0, a0, Sem.run_bind, hE.runUnd hu, Result.andThen_ok, hxv, MapKept.run_getObj_map hxs, MapKept.run_setObj_map _ hxs, Sem.run_pure]
    rfl
  · cases hev
include hE hH hq in
theorem e_clearS {xs : Array Operand} {ats : Array TypeId} {t el : TypeId} {ts : List TypeId} {x : Operand} {l : List Operand} {z : AV} (hx : xs.toList = x :: l) (ht : ats.toList = t :: ts)
    (hu : E.und t = some (.slice el)) (hz : zeroA E el = some z) (hev : xClearS z.cells (q x) h nx L = some (Tn.mk a h' nx')) : Turns P ρ B μ h w ⟨d, .call { callee := .builtin .clear, args := xs, argTypes := ats }, ty, pos, af, gd⟩ a h' := by
  have a0 : (xs.map ρ)[0]? = some (ρ x) := head_args hx
  have t0 : ats[0]? = some t := head_types ht
  have hxv := hq x
  obtain ⟨zv, hzv, rfl⟩ := hE.runZero hz w
  unfold xClearS at hev
  split at hev
  · rename_i e
    rw [e] at hxv; simp only [VR] at hxv
    cases hev
    refine turns_val (v := .tuple #[]) (run_builtin (s := Builtin.clear_ ats ty (xs.map ρ)) rfl (w' := w) ?_) vr_undef (Mu.le_refl _) hH (Ext.refl _ _) (Kp.refl _ _)
    simp [Builtin.clear_, t0, a0, hE.runUnd hu, hxv]
  · rename_i f g o n cp sz ex e
    rw [e] at hxv; simp only [VR] at hxv
    obtain ⟨b, s, mm, xo, c, hm, hxv, v1, v2, v3, hpl⟩ := hxv
    by_cases hn0 : n = 0
    · subst hn0
      cases hev
      refine turns_val (v := .tuple #[]) (run_builtin (s := Builtin.clear_ ats ty (xs.map ρ)) rfl (w' := w) ?_) vr_undef (Mu.le_refl _) hH (Ext.refl _ _) (Kp.refl _ _)
      simp [Builtin.clear_, t0, a0, hE.runUnd hu, hxv]
    · have hb : Nat.beq n 0 = false := Bool.eq_false_iff.2 fun hh => hn0 (Nat.eq_of_beq_eq_true hh)
      rw [hb] at hev
      obtain ⟨hzl, hev⟩ := cnd_inv (show cnd _ _ none = some _ from hev)
      have hzl := Nat.eq_of_beq_eq_true hzl
      obtain ⟨h2, hst, hev⟩ := opt_inv hev
      cases hev
      have hzc := ofV_cells (μ := μ) zv
      have hzs : (ofV zv).cells.length = zv.cells.size := by have := hzc.length; simpa using this
      rcases hpl with ⟨p1, rfl, p3⟩ | ⟨p1, _⟩
      · unfold storeTo at hst
        have hz0 : n * (ofV zv).cells.length ≠ 0 ∨ n * (ofV zv).cells.length = 0 := by omega
        rcases hz0 with hz0 | hz0
        · have hvs := zeros_sound hzc n hz0
          have hnb : Nat.beq (repL (ofV zv).cells n).length 0 = false := Bool.eq_false_iff.2 fun hh => hz0 (by rw [← repL_length]; exact Nat.eq_of_beq_eq_true hh)
          rw [hnb] at hst
          obtain ⟨hsc, hst⟩ := cnd_inv (show cnd _ _ none = some _ from hst)
          obtain ⟨w', r1, r2, r3, r4⟩ := storeC_sound (P := P) hH hm p1 hst rfl (by rw [repL_length]; omega) hvs (allScalar_of hsc hvs)
          refine turns_val (v := .tuple #[]) (run_builtin (s := Builtin.clear_ ats ty (xs.map ρ)) rfl (w' := w') ?_) vr_undef (Mu.le_refl _) r2 r3 r4
          obtain ⟨k, rfl⟩ : ∃ k, n = k + 1 := ⟨n - 1, by omega⟩
          have e5 : (Builtin.zeroCells zv.cells (k + 1)).toList = ((Array.range ((k + 1) * (ofV zv).cells.length)).map (zv.cells[· % zv.cells.size]!)).toList := by rw [hzs]; rfl
          simp only [Builtin.clear_, t0, a0, Sem.run_bind, hE.runUnd hu, Result.andThen_ok, hxv, hzv, e5, r1, Sem.run_pure]
        · have hnb : Nat.beq (repL (ofV zv).cells n).length 0 = true := by rw [repL_length, hz0]; rfl
          rw [hnb] at hst
          cases hst
          refine turns_val (v := .tuple #[]) (run_builtin (s := Builtin.clear_ ats ty (xs.map ρ)) rfl (w' := w) ?_) vr_undef (Mu.le_refl _) hH (Ext.refl _ _) (Kp.refl _ _)
          obtain ⟨k, rfl⟩ : ∃ k, n = k + 1 := ⟨n - 1, by omega⟩
          have e5 : (Builtin.zeroCells zv.cells (k + 1)).toList = [] := by
            have : (Builtin.zeroCells zv.cells (k + 1)).size = 0 := by simp only [Builtin.zeroCells, Array.size_map, Array.size_range]; rw [← hzs]; exact hz0
            exact List.length_eq_zero_iff.1 (by simpa using this)
          simp only [Builtin.clear_, t0, a0, Sem.run_bind, hE.runUnd hu, Result.andThen_ok, hxv, hzv, e5, storeCells, Sem.run_pure]
      · omega
  · cases hev
end
end Go.Ev
