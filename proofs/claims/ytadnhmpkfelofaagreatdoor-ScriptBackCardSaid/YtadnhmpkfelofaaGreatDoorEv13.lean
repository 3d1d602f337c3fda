/- THE EVALUATOR, part 13 of 13: EvLst EvLst2 -/
import Derived.Test.YtadnhmpkfelofaaGreatDoorEv12
set_option linter.unusedVariables false
set_option linter.unusedSectionVars false
set_option linter.unusedSimpArgs false
namespace Go.Ev
set_option linter.unusedVariables false
set_option linter.unusedSectionVars false
set_option linter.unusedSimpArgs false
noncomputable section
/-! ## slices that come in, as named lists -/
def LaR (W : World) (v : Value) (sz : Nat) (rows : List (List Value)) : Prop :=
  (∀ row ∈ rows, row.length = sz) ∧ ∃ base cap, v = .slice base rows.length cap ∧ rows.length ≤ cap ∧
    (cap = 0 ∨ ∃ b off, base = some ⟨b, off, none⟩ ∧ ∃ cs e fz, W.heap[b]? = some (.cells cs e fz) ∧ off + cap * sz ≤ cs.size ∧ LstAt cs off sz rows)
section
variable [Val] [Fk]
theorem HR.argL {μ : Mu} {h : Hp} {W : World} {f q : Key} {sz : Nat} {v : Value} (hH : HR W.heap.size μ h W) (hno : ∀ g, μ f g = none) (hn : nz q = (Val.l q).length) (hr : LaR W v sz (Val.l q)) :
    ∃ ν, μ.le ν ∧ (∀ f', f ≠ f' → ∀ g, ν f' g = μ f' g) ∧ HR W.heap.size ν (hset f (.lst true lstGen sz q []) h) W ∧ VR ν (.nsl f lstGen sz kZ 0 q 0 0) v := by
  obtain ⟨hrows, base, cap, rfl, hcap, hb⟩ := hr
  have z := nz_kZ
  rcases hb with hb | ⟨b, off, rfl, cs, e, fz, hheap, hroom, hl⟩
  · refine ⟨μ, Mu.le_refl _, fun _ _ _ => rfl, ⟨hH.inj, hH.lt, fun f1 => ?_, hH.side, hH.fk, hH.start⟩, ?_⟩
    · by_cases hff : f = f1
      · subst hff
        rw [hget_hset]
        exact ⟨⟨⟨hn, hrows⟩, by simp⟩, ⟨fun g _ => hno g, fun hh => by cases hh⟩, fun g b s n hm => by rw [hno] at hm; cases hm⟩
      · rw [hget_hset_ne hff]; exact hH.obj f1
    · simp only [VR]
      exact ⟨base, _, cap, rfl, hcap, by omega, by omega, .inl hb⟩
  · have hlt : b < W.heap.size := (Array.getElem?_eq_some_iff.1 hheap).1
    have hle := Mu.ins_le (hno lstGen) (b, off, cs.size)
    refine ⟨μ.ins f lstGen (b, off, cs.size), hle, fun f' hf g => Mu.ins_other _ (.inl hf) _, ⟨fun f1 g1 b1 s1 n1 f2 g2 s2 n2 h1 h2 hc => ?_, fun f1 g1 b1 s1 n1 h1 => ?_, fun f1 => ?_, fun f1 g1 g2 b1 s1 n1 s2 n2 h1 h2 hg => ?_, hH.fk, fun f1 b1 s1 n1 h1 => ?_⟩, ?_⟩
    · rcases Mu.ins_inv h1 with ⟨_, rfl, e1⟩ | k1
      · cases e1; exfalso; rcases hc with ⟨hc, _⟩ | hc
        · exact absurd hc (Nat.lt_irrefl _)
        · omega
      · rcases Mu.ins_inv h2 with ⟨_, rfl, e2⟩ | k2
        · cases e2; exfalso; rcases hc with ⟨_, hc⟩ | hc
          · exact absurd hc (Nat.lt_irrefl _)
          · omega
        · exact hH.inj _ _ _ _ _ _ _ _ _ k1 k2 hc
    · rcases Mu.ins_inv h1 with ⟨_, _, e1⟩ | k1
      · cases e1; exact hlt
      · exact hH.lt _ _ _ _ _ k1
    · by_cases hff : f = f1
      · subst hff
        rw [hget_hset]
        refine ⟨⟨⟨hn, hrows⟩, by simp⟩, ⟨fun g hg => ?_, fun hh => (by cases hh)⟩, fun g b1 s1 n1 hm => ?_⟩
        · rw [Mu.ins_other _ (.inr (by omega)) _]; exact hno g
        · rcases Mu.ins_inv hm with ⟨_, rfl, e1⟩ | k1
          · cases e1
            exact ⟨⟨fun hh => (by cases hh), fun _ => Nat.le_refl _⟩, cs, e, fz, hheap, fun hh => (by cases hh), rfl, hl, fun _ i l hi => by simp at hi⟩
          · rw [hno] at k1; cases k1
      · rw [hget_hset_ne hff]
        exact OR.mono hle (fun g => Mu.ins_other _ (.inl hff) _) (fun _ _ _ _ _ => rfl) (hH.obj f1)
    · rcases Mu.ins_inv h1 with ⟨rfl, i1, e1⟩ | k1
      · rcases Mu.ins_inv h2 with ⟨_, i2, e2⟩ | k2
        · omega
        · rw [hno] at k2; cases k2
      · rcases Mu.ins_inv h2 with ⟨rfl, i2, e2⟩ | k2
        · rw [hno] at k1; cases k1
        · exact hH.side _ _ _ _ _ _ _ _ k1 k2 hg
    · rcases Mu.ins_inv h1 with ⟨_, i1, e1⟩ | k1
      · exact absurd i1 (by decide)
      · exact hH.start _ _ _ _ k1
    · simp only [VR]
      exact ⟨_, _, cap, rfl, hcap, by omega, by omega, .inr ⟨b, off, cs.size, 0, Mu.ins_same _ _ _ _, by omega, by simp, by simpa using hroom⟩⟩
theorem GR.le {E : Env} {μ ν : Mu} (h : μ.le ν) (k : GR E μ) : GR E ν := fun g hg => by
  obtain ⟨n, hn⟩ := k g hg
  exact ⟨n, h _ _ _ hn⟩
theorem HR.argIv {μ : Mu} {h : Hp} {B : Nat} {W : World} {f : Key} {lo hi : Int} (hH : HR B μ h W) (hno : ∀ g, μ f g = none) (h1 : lo ≤ Val.n f) (h2 : Val.n f ≤ hi) : HR B μ (hset f (.iv lo hi) h) W := by
  refine ⟨hH.inj, hH.lt, fun f1 => ?_, hH.side, hH.fk, hH.start⟩
  by_cases hff : f = f1
  · subst hff
    rw [hget_hset]
    exact ⟨hno, h1, h2⟩
  · rw [hget_hset_ne hff]; exact hH.obj f1
end
theorem callsD [Val] [Fk] {E : Env} {P : Program} (hE : EnvOk E P) {W : World} {vs : List AV} {args : Array Value} {h : Hp} {nx : Key} {μ : Mu} (hv : VRs μ vs args.toList) (hr : HR W.heap.size μ h W) (hg : GR E μ)
    (hrun : ∃ c, enter E E.root vs false [] h nx = .go c ∧ ∀ cs m, Sim E P ⟨cs, W⟩ c m → Done E P ⟨cs, W⟩ (.bool true) m) :
    Calls P E.root args W (fun e w' => e = .returned (.bool true) ∧ Ext W.heap.size W w') := by
  intro cs
  have hgo := enter_good0 (E := E) (P := P) hE (C := ⟨cs, W⟩) (f := E.root) (nx := nx) hv hr hg (Ext.refl _ _)
  obtain ⟨c, hen, hok⟩ := hrun
  rw [hen] at hgo
  obtain ⟨m', h1, h2⟩ := hgo
  obtain ⟨fr, w, v, ν, k1, k2, k3, k4, k5⟩ := hok cs m' h2
  simp only [VR] at k3
  subst k3
  exact ⟨.returned (.bool true), w, fr, ⟨rfl, k4⟩, h1.trans k1, k5, k2⟩
def withIv (l : List (Key × Int × Int)) (c : Cfg) : Cfg := match c with
  | .mk L td fi cs h nx => .mk L td fi cs (List.rec (motive := fun _ => Hp) h (fun x _ ih => hset x.1 (.iv x.2.1 x.2.2) ih) l) nx
theorem sim_iv {v : Val} {F : Fk} {E : Env} {P : Program} {C : Call0} {L : Lo} {td : List Ci} {fi : FI} {cs : List Fr} {h : Hp} {nx : Key} {m : Machine} {f : Key} {a b lo hi : Int} (k : @Sim v F E P C (.mk L td fi cs h nx) m)
    (ho : hget f h = .iv a b) (h1 : lo ≤ v.n f) (h2 : v.n f ≤ hi) : @Sim v F E P C (.mk L td fi cs (hset f (.iv lo hi) h) nx) m := by
  cases k with
  | mk hr hg he hf hst hk =>
    refine @Sim.mk v F _ _ _ _ _ _ _ _ _ _ _ _ _ _ _ (@HR.argIv v F _ _ _ _ _ _ _ hr (fun g => ?_) h1 h2) hg he hf hst ⟨hk.1, fun f' hf' => ?_⟩
    · have := @HR.obj v F _ _ _ _ hr f
      rw [ho] at this
      exact this.1 g
    · obtain ⟨e1, e2⟩ := hk.2 f' hf'
      refine ⟨?_, e2⟩
      by_cases e : f = f'
      · subst e; rw [hget_hset]; rfl
      · rw [hget_hset_ne e]; exact e1
theorem sim_ivs {v : Val} {F : Fk} {E : Env} {P : Program} {C : Call0} : ∀ (l : List (Key × Int × Int)) {c : Cfg} {m : Machine}, (∀ x ∈ l, ∃ a b, hget x.1 c.hp = .iv a b) → (∀ x ∈ l, x.2.1 ≤ v.n x.1 ∧ v.n x.1 ≤ x.2.2) →
    @Sim v F E P C c m → @Sim v F E P C (withIv l c) m ∧ ∀ k a b, hget k c.hp = .iv a b → ∃ a b, hget k (withIv l c).hp = .iv a b
  | [], .mk _ _ _ _ _ _, _, _, _, k => ⟨k, fun k a b h => ⟨a, b, h⟩⟩
  | x :: l, .mk L td fi cs h nx, m, h1, h2, k => by
    obtain ⟨k1, k2⟩ := sim_ivs l (fun y hy => h1 y (List.mem_cons_of_mem _ hy)) (fun y hy => h2 y (List.mem_cons_of_mem _ hy)) k
    obtain ⟨a, b, e⟩ := h1 x (List.mem_cons_self ..)
    obtain ⟨a', b', e'⟩ := k2 x.1 a b e
    obtain ⟨b1, b2⟩ := h2 x (List.mem_cons_self ..)
    refine ⟨sim_iv k1 e' b1 b2, fun k a b hk => ?_⟩
    show ∃ a b, hget k (hset x.1 (.iv x.2.1 x.2.2) _) = .iv a b
    by_cases e : x.1 = k
    · subst e; rw [hget_hset]; exact ⟨_, _, rfl⟩
    · rw [hget_hset_ne e]; exact k2 k a b hk
def enterT [Fk] (E : Env) (hd : Cfg → Bool) (n : Nat) (sg : Sg) (ks : List Key) (gr : List Gr) (H : Cfg) (vs : List AV) (h : Hp) (nx : Key) : Option (List Et) :=
  Sp.rec (motive := fun _ => Option (List Et)) (fun c => turnT E hd n sg ks gr H c) (fun _ => none) (fun _ => none) none (enter E E.root vs false [] h nx)
theorem enterT_some {F : Fk} {E : Env} {hd : Cfg → Bool} {n : Nat} {sg : Sg} {ks : List Key} {gr : List Gr} {H : Cfg} {vs : List AV} {h : Hp} {nx : Key} {l : List Et} (e : @enterT F E hd n sg ks gr H vs h nx = some l) :
    ∃ c, enter E E.root vs false [] h nx = .go c ∧ @turnT F E hd n sg ks gr H c = some l := by
  unfold enterT at e
  cases hen : enter E E.root vs false [] h nx with
  | go c => rw [hen] at e; exact ⟨c, rfl, e⟩
  | _ => rw [hen] at e; cases e
theorem map_one {α β : Type} {f g : α → β} {l : List α} (h : l.map f = l.map g) {a : α} (ha : a ∈ l) : f a = g a := (List.map_inj_left.1 h) a ha
end
end Go.Ev

namespace Go.Ev
set_option linter.unusedVariables false
set_option linter.unusedSectionVars false
set_option linter.unusedSimpArgs false
noncomputable section
theorem cells_get {w : World} {a : Addr} {n : Nat} {l : List Value} (h : w.cells? 0 a n = some l) : l.length = n ∧ ∀ j, j < n → ∃ v, w.cell? (a.add j) = some v ∧ l[j]? = some v := by
  unfold World.cells? at h
  rw [if_pos (Nat.zero_le _)] at h
  have h1 := mapM_some_length h
  rw [List.length_range] at h1
  refine ⟨h1, fun j hj => ?_⟩
  have h2 := mapM_some_get h j j (by simp [hj])
  have h3 : j < l.length := by omega
  exact ⟨l[j], by rw [h2, List.getElem?_eq_getElem h3], List.getElem?_eq_getElem h3⟩
theorem add_eq (a : Addr) (n : Nat) : (a.add n).block = a.block ∧ (a.add n).off = a.off + n ∧ ((a.add n).spot = none → n = 0 → a.spot = none) := by
  unfold Addr.add
  split
  · rename_i h; subst h; exact ⟨rfl, rfl, fun h _ => h⟩
  · rename_i h; exact ⟨rfl, rfl, fun _ h' => absurd h' h⟩
theorem cell_some {w : World} {a : Addr} {v : Value} (h : w.cell? a = some v) : a.spot = none ∧ ∃ cs e fz, w.heap[a.block]? = some (.cells cs e fz) ∧ cs[a.off]? = some v := by
  unfold World.cell? at h
  split at h
  · rename_i cs e fz hb
    split at h
    · cases h
    · rename_i hs
      refine ⟨by cases hh : a.spot with | none => rfl | some x => rw [hh] at hs; simp at hs, cs, e, fz, hb, h⟩
  · cases h
section
variable {E : Env} {P : Program} (hE : EnvOk E P) {w : World} {H : Type} {enc : TypeId × Value → H}
include hE
theorem slice_rows {r : Reach} {b0 k : Nat} {t e : TypeId} {v : Value} {d : DataW H} {ps : List MemPlace} (hu : E.und t = some (.slice e)) (hsz : E.size e = some (k + 1)) (hok : Value.okWide P w r b0 t v)
    (h : DataW.Trod enc P w 0 (fun _ => true) true t v d ps) :
    ∃ rows, LaR w v (k + 1) rows ∧ rows.length ≤ maxLen ∧ ∀ row ∈ rows, ∃ fuel x, DataW.trod enc P w 0 (fun _ => true) true fuel e row = some x := by
  have hup := @EnvOk.und dV dF E P hE t _ hu
  have hcell : P.cellsOf e = k + 1 := @EnvOk.cellsOf dV dF E P hE e _ hsz
  obtain ⟨base, len, cap, rfl⟩ : ∃ base len cap, v = .slice base len cap := by
    unfold Value.okWide at hok
    rw [hup] at hok
    simp only at hok
    unfold Cell.okWide at hok
    rw [hup] at hok
    simp only at hok
    unfold Cell.ok at hok
    rw [hup] at hok
    cases v <;> first | exact ⟨_, _, _, rfl⟩ | exact hok.elim
  obtain ⟨fuel, h⟩ := h
  have h : DataW.trod enc P w 0 (fun _ => true) true fuel t [.slice base len cap] = some (d, ps) := h
  rcases DataW.trod_slice hup h with ⟨h1, _⟩ | ⟨a, len', cap', elems, rest, n, rfl, h1, h2, h3, h4, h5, h6, h7, h8, _⟩
  · cases h1
    exact ⟨[], ⟨by simp, none, 0, rfl, Nat.le_refl _, .inl rfl⟩, Nat.zero_le _, by simp⟩
  · simp only [List.cons.injEq, Value.slice.injEq, and_true] at h1
    obtain ⟨rfl, rfl, rfl⟩ := h1
    rw [hcell] at h7 h8
    obtain ⟨h9, h8⟩ := h8 rfl
    have el : ∀ i, i < len → ∃ row x, w.cells? 0 (a.add (i * (k + 1))) (k + 1) = some row ∧ DataW.trod enc P w 0 (fun _ => true) true n e row = some x := by
      intro i hi
      have := h7 i hi
      rw [List.getElem?_eq_getElem (by omega)] at this
      obtain ⟨row, e1, e2⟩ := Option.bind_eq_some_iff.1 this
      exact ⟨row, _, e1, e2⟩
    have any : ∀ i, i < cap → ∃ row, w.cells? 0 (a.add (i * (k + 1))) (k + 1) = some row := by
      intro i hi
      by_cases hlt : i < len
      · obtain ⟨row, _, e1, _⟩ := el i hlt; exact ⟨row, e1⟩
      · have := h8 (i - len) (by omega)
        rw [List.getElem?_eq_getElem (by omega)] at this
        obtain ⟨row, e1, e2⟩ := Option.bind_eq_some_iff.1 this
        exact ⟨row, by rwa [show len + (i - len) = i from by omega] at e1⟩
    let rows := (List.range len).map fun i => (w.cells? 0 (a.add (i * (k + 1))) (k + 1)).getD []
    have hlen : rows.length = len := by simp [rows]
    have hget : ∀ (i : Nat) row, rows[i]? = some row → i < len ∧ w.cells? 0 (a.add (i * (k + 1))) (k + 1) = some row := by
      intro i row hi
      have hlt : i < len := by rw [← hlen]; exact (List.getElem?_eq_some_iff.1 hi).1
      obtain ⟨row', _, e1, _⟩ := el i hlt
      have : rows[i]? = some row' := by simp [rows, hlt, e1]
      rw [this] at hi
      cases hi
      exact ⟨hlt, e1⟩
    refine ⟨rows, ⟨fun row hrow => ?_, some a, cap, by rw [hlen], by omega, ?_⟩, by omega, fun row hrow => ?_⟩
    · obtain ⟨i, hi⟩ := List.getElem?_of_mem hrow
      exact (cells_get (hget i row hi).2).1
    · rcases Nat.eq_zero_or_pos cap with h0 | h0
      · exact .inl h0
      · right
        obtain ⟨row, hr⟩ := any (cap - 1) (by omega)
        obtain ⟨_, hc⟩ := cells_get hr
        obtain ⟨x, hx, _⟩ := hc k (by omega)
        obtain ⟨hs, cs, el', fz, hb, hx⟩ := cell_some hx
        obtain ⟨row0, hr0⟩ := any 0 h0
        obtain ⟨_, hc0⟩ := cells_get hr0
        obtain ⟨x0, hx0, _⟩ := hc0 0 (by omega)
        obtain ⟨hs0, _⟩ := cell_some hx0
        have hsp : a.spot = none := by
          have h1 := (add_eq (a.add (0 * (k + 1))) 0).2.2 hs0 rfl
          exact (add_eq a (0 * (k + 1))).2.2 h1 (by omega)
        obtain ⟨blk, off, spot⟩ := a
        have hs : spot = none := hsp
        subst hs
        have hlt := (Array.getElem?_eq_some_iff.1 hx).1
        rw [(add_eq _ _).1, (add_eq _ _).1] at hb
        rw [(add_eq _ _).2.1, (add_eq _ _).2.1] at hlt
        have hb : w.heap[blk]? = some (.cells cs el' fz) := hb
        have hlt : off + (cap - 1) * (k + 1) + k < cs.size := hlt
        refine ⟨blk, off, rfl, cs, el', fz, hb, ?_, fun i row hi j y hj => ?_⟩
        · have : (cap - 1) * (k + 1) + (k + 1) = cap * (k + 1) := by rw [← Nat.succ_mul]; congr 1; omega
          omega
        · obtain ⟨_, hr⟩ := hget i row hi
          obtain ⟨hl, hc⟩ := cells_get hr
          obtain ⟨z, hz, hz2⟩ := hc j (by have := (List.getElem?_eq_some_iff.1 hj).1; omega)
          obtain ⟨_, cs', e', fz', hb', hz⟩ := cell_some hz
          rw [(add_eq _ _).1, (add_eq _ _).1] at hb'
          rw [(add_eq _ _).2.1, (add_eq _ _).2.1] at hz
          have hb' : w.heap[blk]? = some (.cells cs' e' fz') := hb'
          rw [hb] at hb'
          cases hb'
          rw [hj] at hz2
          cases hz2
          exact hz
    · obtain ⟨i, hi⟩ := List.getElem?_of_mem hrow
      obtain ⟨hlt, hr⟩ := hget i row hi
      obtain ⟨row', x, e1, e2⟩ := el i hlt
      rw [hr] at e1
      cases e1
      exact ⟨n, x, e2⟩
end
end
end Go.Ev
