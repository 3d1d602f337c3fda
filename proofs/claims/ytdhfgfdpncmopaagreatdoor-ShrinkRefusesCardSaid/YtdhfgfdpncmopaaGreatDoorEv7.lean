/- THE EVALUATOR, part 7 of 12: EvCtl1 EvCtl2 EvCtl3 EvCtl4 EvCtl5 -/
import Derived.Test.YtdhfgfdpncmopaaGreatDoorEv6
set_option linter.unusedVariables false
set_option linter.unusedSectionVars false
set_option linter.unusedSimpArgs false
namespace Go.Ev
set_option linter.unusedVariables false
set_option linter.unusedSectionVars false
set_option linter.unusedSimpArgs false
noncomputable section
variable [Val] [Fk]
def evT (tmps : Array Value) : Operand → Value
  | .tmp t => tmps.getD t undef
  | .const v => v
  | .global g => .pointer (some ⟨g, 0, none⟩)
  | .func f => .func (.func f) #[] #[]
theorem eval_evT (fr : Frame) : fr.eval = evT fr.tmps := by funext x; cases x <;> rfl
theorem D.ofNat_inj {m n : Nat} (hm : m < 8) (hn : n < 8) (h : D.ofNat m = D.ofNat n) : m = n := by
  match m, n, hm, hn with
  | 0, 0, _, _ => rfl
  | 1, 1, _, _ => rfl
  | 2, 2, _, _ => rfl
  | 3, 3, _, _ => rfl
  | 4, 4, _, _ => rfl
  | 5, 5, _, _ => rfl
  | 6, 6, _, _ => rfl
  | 7, 7, _, _ => rfl
  | 0, 1, _, _ => cases h
  | 0, 2, _, _ => cases h
  | 0, 3, _, _ => cases h
  | 0, 4, _, _ => cases h
  | 0, 5, _, _ => cases h
  | 0, 6, _, _ => cases h
  | 0, 7, _, _ => cases h
  | 1, 0, _, _ => cases h
  | 1, 2, _, _ => cases h
  | 1, 3, _, _ => cases h
  | 1, 4, _, _ => cases h
  | 1, 5, _, _ => cases h
  | 1, 6, _, _ => cases h
  | 1, 7, _, _ => cases h
  | 2, 0, _, _ => cases h
  | 2, 1, _, _ => cases h
  | 2, 3, _, _ => cases h
  | 2, 4, _, _ => cases h
  | 2, 5, _, _ => cases h
  | 2, 6, _, _ => cases h
  | 2, 7, _, _ => cases h
  | 3, 0, _, _ => cases h
  | 3, 1, _, _ => cases h
  | 3, 2, _, _ => cases h
  | 3, 4, _, _ => cases h
  | 3, 5, _, _ => cases h
  | 3, 6, _, _ => cases h
  | 3, 7, _, _ => cases h
  | 4, 0, _, _ => cases h
  | 4, 1, _, _ => cases h
  | 4, 2, _, _ => cases h
  | 4, 3, _, _ => cases h
  | 4, 5, _, _ => cases h
  | 4, 6, _, _ => cases h
  | 4, 7, _, _ => cases h
  | 5, 0, _, _ => cases h
  | 5, 1, _, _ => cases h
  | 5, 2, _, _ => cases h
  | 5, 3, _, _ => cases h
  | 5, 4, _, _ => cases h
  | 5, 6, _, _ => cases h
  | 5, 7, _, _ => cases h
  | 6, 0, _, _ => cases h
  | 6, 1, _, _ => cases h
  | 6, 2, _, _ => cases h
  | 6, 3, _, _ => cases h
  | 6, 4, _, _ => cases h
  | 6, 5, _, _ => cases h
  | 6, 7, _, _ => cases h
  | 7, 0, _, _ => cases h
  | 7, 1, _, _ => cases h
  | 7, 2, _, _ => cases h
  | 7, 3, _, _ => cases h
  | 7, 4, _, _ => cases h
  | 7, 5, _, _ => cases h
  | 7, 6, _, _ => cases h
theorem digits_inj {t u : Nat} (ht : t < 512) (hu : u < 512)
    (h : D.ofNat (t / 64 % 8) = D.ofNat (u / 64 % 8) ∧ D.ofNat (t / 8 % 8) = D.ofNat (u / 8 % 8) ∧ D.ofNat (t % 8) = D.ofNat (u % 8)) : t = u := by
  obtain ⟨h1, h2, h3⟩ := h
  have h1 := D.ofNat_inj (Nat.mod_lt _ (by omega)) (Nat.mod_lt _ (by omega)) h1
  have h2 := D.ofNat_inj (Nat.mod_lt _ (by omega)) (Nat.mod_lt _ (by omega)) h2
  have h3 := D.ofNat_inj (Nat.mod_lt _ (by omega)) (Nat.mod_lt _ (by omega)) h3
  omega
theorem getT_setT (t : Nat) (v : AV) (tm : Tm) : getT t (setT t v tm) = v := tget_tset _ _ _ _ _
theorem getT_setT_ne {t u : Nat} (ht : t < 512) (hu : u < 512) (h : t ≠ u) (v : AV) (tm : Tm) : getT u (setT t v tm) = getT u tm :=
  tget_tset_ne (fun hh => h (digits_inj ht hu hh)) _ _
theorem put_s (t : Nat) (v : AV) (L : Lo) : put (slot t .s) v L = .mk (setT t v L.tm) v (getO .w0 L) (getO .w1 L) := by cases L; rfl
theorem put_o (t : Nat) (v : AV) (L : Lo) : put (slot t .o) v L = .mk (setT t v L.tm) (getO .w0 L) (getO .w1 L) (getO .w2 L) := by cases L; rfl
theorem put_w (v : AV) (L : Lo) : put .w v L = .mk L.tm v (getO .w0 L) (getO .w1 L) := by cases L; rfl
theorem put_no (v : AV) (L : Lo) : put .no v L = L := by cases L; rfl
theorem tm_mk (tm : Tm) (a b c : AV) : (Lo.mk tm a b c).tm = tm := rfl
theorem getO_t (a b c : D) (L : Lo) : getO (.t a b c) L = tget a b c L.tm := by cases L; rfl
theorem getO_c (v : AV) (L : Lo) : getO (.c v) L = v := by cases L; rfl
theorem inNd_lt {nd t : Nat} (h : inNd nd t = true) : t < 512 := by
  unfold inNd at h
  cases hb : Nat.blt t 512 with
  | true => exact Nat.le_of_ble_eq_true hb
  | false => rw [hb] at h; cases h
def Free (a : AV) : Prop := ∀ (V W : Val) (μ ν : Mu) (v : Value), @VR V μ a v → @VR W ν a v
mutual
theorem ofV_free : ∀ v : Value, Free (ofV v)
  | .bool b, V, W, μ, ν, x, h => by simpa only [ofV, VR] using h
  | .int k (.ofNat n), V, W, μ, ν, x, h => by simpa only [ofV, VR] using h
  | .int k (.negSucc n), V, W, μ, ν, x, h => by simpa only [ofV, VR] using h
  | .string s, V, W, μ, ν, x, h => by simpa only [ofV, VR] using h
  | .pointer none, V, W, μ, ν, x, h => by simpa only [ofV, VR] using h
  | .slice none 0 0, V, W, μ, ν, x, h => by simpa only [ofV, VR] using h
  | .map none, V, W, μ, ν, x, h => by simpa only [ofV, VR] using h
  | .func f ⟨fs⟩ ⟨cs⟩, V, W, μ, ν, x, h => by
    simp only [ofV, VR] at h ⊢
    obtain ⟨F, gs, ds, h1, h2, h3, h4⟩ := h
    exact ⟨F, gs, ds, h1, h2, ofVs_free fs V W μ ν _ h3, ofVs_free cs V W μ ν _ h4⟩
  | .nilFunc, V, W, μ, ν, x, h => by simpa only [ofV, VR] using h
  | .nilIface, V, W, μ, ν, x, h => by simpa only [ofV, VR] using h
  | .iface t v, V, W, μ, ν, x, h => by
    simp only [ofV, VR] at h ⊢
    obtain ⟨y, h1, h2⟩ := h
    exact ⟨y, h1, ofV_free v V W μ ν _ h2⟩
  | .agg ⟨cs⟩, V, W, μ, ν, x, h => by
    simp only [ofV, VR] at h ⊢
    obtain ⟨ds, h1, h2⟩ := h
    exact ⟨ds, h1, ofVs_free cs V W μ ν _ h2⟩
  | .tuple ⟨cs⟩, V, W, μ, ν, x, h => by
    simp only [ofV, VR] at h ⊢
    obtain ⟨ds, h1, h2⟩ := h
    exact ⟨ds, h1, ofVs_free cs V W μ ν _ h2⟩
  | .pointer (some a), V, W, μ, ν, x, h => by simp only [ofV, VR]
  | .slice (some a) n c, V, W, μ, ν, x, h => by simp only [ofV, VR]
  | .slice none (n + 1) c, V, W, μ, ν, x, h => by simp only [ofV, VR]
  | .slice none 0 (c + 1), V, W, μ, ν, x, h => by simp only [ofV, VR]
  | .map (some b), V, W, μ, ν, x, h => by simp only [ofV, VR]
  | .float .., V, W, μ, ν, x, h => by simp only [ofV, VR]
  | .complex .., V, W, μ, ν, x, h => by simp only [ofV, VR]
  | .chan _, V, W, μ, ν, x, h => by simp only [ofV, VR]
theorem ofVs_free : ∀ (l : List Value) (V W : Val) (μ ν : Mu) (vs : List Value), @VRs V μ (ofVs l) vs → @VRs W ν (ofVs l) vs
  | [], V, W, μ, ν, vs, h => by simpa only [ofVs, VRs] using h
  | v :: l, V, W, μ, ν, vs, h => by
    simp only [ofVs, VRs] at h ⊢
    obtain ⟨x, r, h1, h2, h3⟩ := h
    exact ⟨x, r, h1, ofV_free v V W μ ν x h2, ofVs_free l V W μ ν r h3⟩
end
def CleOk (nd : Nat) : Cle → Prop
  | .mk _ dep x => (∀ a b c, x = .t a b c → ∃ d, dep = some d ∧ inNd nd d = true ∧ slot d Opd.t = .t a b c) ∧ ∀ av, x = .c av → Free av
def ClOk (nd : Nat) (cl : Cl) : Prop := ∀ e, e ∈ cl → CleOk nd e
def ClR (μ : Mu) (cl : Cl) (L : Lo) (tmps : Array Value) : Prop := ∀ u d x, Cle.mk u d x ∈ cl → VR μ (getO x L) (tmps.getD u undef)
structure KnR (nd : Nat) (μ : Mu) (cl : Cl) (L : Lo) (tmps : Array Value) : Prop where
  need : NeedR nd NoX μ L.tm tmps
  cok : ClOk nd cl
  cr : ClR μ cl L tmps
theorem KnR.mono {nd : Nat} {μ ν : Mu} (h : μ.le ν) {cl : Cl} {L : Lo} {tmps : Array Value} (k : KnR nd μ cl L tmps) : KnR nd ν cl L tmps :=
  ⟨k.need.mono h, k.cok, fun u d x hm => VR.mono h _ _ (k.cr u d x hm)⟩
theorem KnR.forget {nd : Nat} {μ : Mu} {cl : Cl} {L : Lo} {tmps : Array Value} (k : KnR nd μ cl L tmps) : KnR nd μ [] L tmps :=
  ⟨k.need, (fun e he => by cases he), fun u d x hm => by cases hm⟩
theorem clGet_mem : ∀ {cl : Cl} {t : Nat} {e : Cle}, clGet t cl = some e → e ∈ cl ∧ ∃ d x, e = .mk t d x
  | [], t, e, h => by cases h
  | .mk u d x :: l, t, e, h => by
    unfold clGet at h
    cases hb : Nat.beq t u with
    | true =>
      rw [hb] at h
      have := Nat.eq_of_beq_eq_true hb; subst this
      cases h
      exact ⟨by simp, d, x, rfl⟩
    | false =>
      rw [hb] at h
      obtain ⟨h1, h2⟩ := clGet_mem (cl := l) (t := t) (e := e) h
      exact ⟨by simp [h1], h2⟩
section
variable {E : Env} {μ : Mu} (hG : GR E μ) {nd : Nat} {cl : Cl} {L : Lo} {tmps : Array Value}
theorem slotX_getO {t : Nat} (L : Lo) : getO (slotX nd t) L = if inNd nd t = true then getT t L.tm else .top := by
  unfold slotX
  cases inNd nd t with
  | true => simp only [cond_true, if_true]; exact getO_t _ _ _ _
  | false => simp only [cond_false, Bool.false_eq_true, if_false]; exact getO_c _ _
include hG in
theorem need_q {X : Nat → Prop} (hk : NeedR nd X μ L.tm tmps) (hX : ∀ t, X t → False) (hc : ClR μ cl L tmps) : ∀ x, VR μ (getO (opdW nd (gl E) cl x) L) (evT tmps x)
  | .tmp t => by
    show VR μ (getO (match clGet t cl with | some (.mk _ _ x) => x | none => slotX nd t) L) (tmps.getD t undef)
    cases hg : clGet t cl with
    | none =>
      simp only
      rw [slotX_getO]
      split
      · rename_i h; exact hk t h (fun hx => hX t hx)
      · simp only [VR]
    | some e =>
      obtain ⟨h1, d, x, rfl⟩ := clGet_mem hg
      exact hc t d x h1
  | .const v => by
    show VR μ (getO (.c (ofV v)) L) v
    rw [getO_c]; exact ofV_sound μ v
  | .global g => by
    show VR μ (getO (bif inM (gl E) g then .c (.ptr (Key.ofNat g) 0 0) else .c .top) L) (.pointer (some ⟨g, 0, none⟩))
    cases hg : inM (gl E) g with
    | true =>
      simp only [cond_true]
      rw [getO_c]
      obtain ⟨n, hn⟩ := hG g hg
      simp only [VR]
      exact ⟨g, 0, n, hn, Nat.le_refl _, rfl⟩
    | false => simp only [cond_false]; rw [getO_c]; simp only [VR]
  | .func f => by
    show VR μ (getO (.c (.func (.fn (.func f)) [] [])) L) (.func (.func f) #[] #[])
    rw [getO_c]; simp only [VR]; exact ⟨_, _, _, rfl, rfl, .nil, .nil⟩
include hG in
theorem KnR.q (hk : KnR nd μ cl L tmps) : ∀ x, VR μ (getO (opdW nd (gl E) cl x) L) (evT tmps x) := need_q hG hk.need (fun _ h => h) hk.cr
theorem mem_kill {t : Nat} : ∀ {cl : Cl} {u : Nat} {d : Option Nat} {x : Opd}, Cle.mk u d x ∈ kill t cl → Cle.mk u d x ∈ cl ∧ u ≠ t ∧ d ≠ some t
  | [], u, d, x, h => by cases h
  | .mk u0 d0 x0 :: l, u, d, x, h => by
    unfold kill at h
    cases hb : Nat.beq t u0 || depN t d0 with
    | true =>
      rw [hb] at h
      obtain ⟨h1, h2⟩ := mem_kill (t := t) (cl := l) (show Cle.mk u d x ∈ kill t l from h)
      exact ⟨List.mem_cons_of_mem _ h1, h2⟩
    | false =>
      rw [hb] at h
      rcases List.mem_cons.1 (show Cle.mk u d x ∈ Cle.mk u0 d0 x0 :: kill t l from h) with h1 | h1
      · cases h1
        simp only [Bool.or_eq_false_iff] at hb
        refine ⟨by simp, fun hh => by subst hh; simp at hb, fun hh => ?_⟩
        subst hh
        simp [depN] at hb
      · obtain ⟨h1, h2⟩ := mem_kill (t := t) (cl := l) h1
        exact ⟨List.mem_cons_of_mem _ h1, h2⟩
theorem mem_shift : ∀ {cl : Cl} {u : Nat} {d : Option Nat} {y : Opd}, Cle.mk u d y ∈ shiftL cl → ∃ x, Cle.mk u d x ∈ cl ∧ shiftO x = some y
  | [], u, d, y, h => by cases h
  | .mk u0 d0 x0 :: l, u, d, y, h => by
    unfold shiftL at h
    split at h
    · rename_i y0 hy
      rcases List.mem_cons.1 h with h1 | h1
      · cases h1; exact ⟨x0, by simp, hy⟩
      · obtain ⟨x, h2, h3⟩ := mem_shift h1; exact ⟨x, List.mem_cons_of_mem _ h2, h3⟩
    · obtain ⟨x, h2, h3⟩ := mem_shift h; exact ⟨x, List.mem_cons_of_mem _ h2, h3⟩
theorem getD_set {tmps : Array Value} {t u : Nat} {v : Value} (ht : t < tmps.size) : (tmps.setIfInBounds t v).getD u undef = if t = u then v else tmps.getD u undef := by
  simp only [Array.getD_eq_getD_getElem?, Array.getElem?_setIfInBounds]
  split
  · rename_i h; subst h; simp [ht]
  · rfl
theorem KnR.put (hk : KnR nd μ cl L tmps) {t n : Nat} {a : AV} {v : Value} (hok : okD n (some t) = true) (hn : n ≤ tmps.size) (hv : VR μ a v) :
    KnR nd μ (pushCl (some t) cl) (put (dstN nd (some t)) a L) (tmps.setIfInBounds t v) := by
  have hok' : t < n ∧ t < 512 := by
    simp only [okD, Bool.and_eq_true] at hok
    exact ⟨Nat.le_of_ble_eq_true hok.1, Nat.le_of_ble_eq_true hok.2⟩
  obtain ⟨htn, ht⟩ := hok'
  have hts : t < tmps.size := by omega
  have hcok : ClOk nd (pushCl (some t) cl) := by
    intro e he
    rcases List.mem_cons.1 (show e ∈ Cle.mk t none .w0 :: shiftL (kill t cl) from he) with h1 | h1
    · subst h1; exact ⟨fun a b c hh => (by cases hh), fun av hh => (by cases hh)⟩
    · obtain ⟨u, d, y⟩ := e
      obtain ⟨x, h2, h3⟩ := mem_shift h1
      obtain ⟨h4, _, _⟩ := mem_kill h2
      have := hk.cok _ h4
      refine ⟨fun a b c hh => ?_, fun av hh => ?_⟩
      · subst hh
        have hx : x = .t a b c := by cases x <;> simp [shiftO] at h3 <;> simp [h3]
        exact this.1 a b c hx
      · subst hh
        have hx : x = .c av := by cases x <;> simp [shiftO] at h3 <;> simp [h3]
        exact this.2 av hx
  -- the tree and the last values
  have key : ∀ tm', (∀ u, inNd nd u = true → VR μ (getT u tm') ((tmps.setIfInBounds t v).getD u undef)) → (∀ u, u < 512 → u ≠ t → getT u tm' = getT u L.tm) →
      KnR nd μ (pushCl (some t) cl) (.mk tm' a (getO .w0 L) (getO .w1 L)) (tmps.setIfInBounds t v) := by
    intro tm' h1 h2
    refine ⟨fun u hu _ => h1 u hu, hcok, fun u d y hm => ?_⟩
    rcases List.mem_cons.1 (show Cle.mk u d y ∈ Cle.mk t none .w0 :: shiftL (kill t cl) from hm) with h3 | h3
    · cases h3
      rw [getD_set hts, if_pos rfl]; exact hv
    · obtain ⟨x, h4, h5⟩ := mem_shift h3
      obtain ⟨h6, h7, h8⟩ := mem_kill h4
      rw [getD_set hts, if_neg (Ne.symm h7)]
      have h9 := hk.cr u d x h6
      cases x with
      | w0 => cases h5; exact h9
      | w1 => cases h5; exact h9
      | w2 => cases h5
      | c av => cases h5; rw [getO_c] at h9 ⊢; exact h9
      | t p q r =>
        cases h5
        obtain ⟨d', e1, e2, e3⟩ := (hk.cok _ h6).1 p q r rfl
        rw [getO_t] at h9 ⊢
        have e4 : tget p q r tm' = getT d' tm' := by
          have : slot d' Opd.t = .t (D.ofNat (d' / 64 % 8)) (D.ofNat (d' / 8 % 8)) (D.ofNat (d' % 8)) := rfl
          rw [this] at e3; cases e3; rfl
        have e5 : tget p q r L.tm = getT d' L.tm := by
          have : slot d' Opd.t = .t (D.ofNat (d' / 64 % 8)) (D.ofNat (d' / 8 % 8)) (D.ofNat (d' % 8)) := rfl
          rw [this] at e3; cases e3; rfl
        rw [tm_mk, e4, h2 d' (inNd_lt e2) (fun hh => h8 (by rw [e1, hh])), ← e5]
        exact h9
  show KnR nd μ (pushCl (some t) cl) (Go.Ev.put (bif inNd nd t then slot t .s else .w) a L) (tmps.setIfInBounds t v)
  cases hnd : inNd nd t with
  | true =>
    simp only [hnd, cond_true]
    rw [put_s]
    refine key _ (fun u hu => ?_) (fun u hu hne => getT_setT_ne ht hu (Ne.symm hne) _ _)
    rw [getD_set hts]
    by_cases htu : t = u
    · subst htu; rw [if_pos rfl, getT_setT]; exact hv
    · rw [if_neg htu, getT_setT_ne ht (inNd_lt hu) htu]; exact hk.need u hu (fun h => h)
  | false =>
    simp only [hnd, cond_false]
    rw [put_w]
    refine key _ (fun u hu => ?_) (fun _ _ _ => rfl)
    have htu : t ≠ u := fun hh => by subst hh; rw [hnd] at hu; cases hu
    rw [getD_set hts, if_neg htu]; exact hk.need u hu (fun h => h)
theorem KnR.putNone (hk : KnR nd μ cl L tmps) (a : AV) : KnR nd μ (pushCl none cl) (Go.Ev.put (dstN nd none) a L) tmps := by
  rw [show dstN nd none = .no from rfl, put_no]; exact hk
include hG in
theorem KnR.alias (hk : KnR nd μ cl L tmps) {t n : Nat} {x : Operand} (hok : okD n (some t) = true) (hn : n ≤ tmps.size) :
    KnR nd μ (aliasCl nd t x cl) (bif inNd nd t then Go.Ev.put (slot t .o) (getO (opdW nd (gl E) cl x) L) L else L) (tmps.setIfInBounds t (evT tmps x)) := by
  have hok' : t < n ∧ t < 512 := by
    simp only [okD, Bool.and_eq_true] at hok
    exact ⟨Nat.le_of_ble_eq_true hok.1, Nat.le_of_ble_eq_true hok.2⟩
  obtain ⟨htn, ht⟩ := hok'
  have hts : t < tmps.size := by omega
  have hq := hk.q hG x
  -- the frame behind it
  have hL : ∃ tm', (bif inNd nd t then Go.Ev.put (slot t .o) (getO (opdW nd (gl E) cl x) L) L else L) = .mk tm' (getO .w0 L) (getO .w1 L) (getO .w2 L) ∧
      (∀ u, inNd nd u = true → VR μ (getT u tm') ((tmps.setIfInBounds t (evT tmps x)).getD u undef)) ∧ (∀ u, u < 512 → u ≠ t → getT u tm' = getT u L.tm) := by
    cases hnd : inNd nd t with
    | true =>
      refine ⟨setT t (getO (opdW nd (gl E) cl x) L) L.tm, by simp only [cond_true]; rw [put_o], fun u hu => ?_, fun u hu hne => getT_setT_ne ht hu (Ne.symm hne) _ _⟩
      rw [getD_set hts]
      by_cases htu : t = u
      · subst htu; rw [if_pos rfl, getT_setT]; exact hq
      · rw [if_neg htu, getT_setT_ne ht (inNd_lt hu) htu]; exact hk.need u hu (fun h => h)
    | false =>
      refine ⟨L.tm, by simp only [cond_false]; cases L; rfl, fun u hu => ?_, fun _ _ _ => rfl⟩
      have htu : t ≠ u := fun hh => by subst hh; rw [hnd] at hu; cases hu
      rw [getD_set hts, if_neg htu]; exact hk.need u hu (fun h => h)
  obtain ⟨tm', e0, h1, h2⟩ := hL
  rw [e0]
  -- an old place still holds what it held, but for slot t
  have old : ∀ d y, (∀ a b c, y = .t a b c → ∃ d', d = some d' ∧ inNd nd d' = true ∧ slot d' Opd.t = .t a b c) → d ≠ some t → getO y (.mk tm' (getO .w0 L) (getO .w1 L) (getO .w2 L)) = getO y L := by
    intro d y hc hd
    cases y with
    | w0 => rfl
    | w1 => rfl
    | w2 => rfl
    | c av => rw [getO_c, getO_c]
    | t p q r =>
      obtain ⟨d', e1, e2, e3⟩ := hc p q r rfl
      have hs : slot d' Opd.t = .t (D.ofNat (d' / 64 % 8)) (D.ofNat (d' / 8 % 8)) (D.ofNat (d' % 8)) := rfl
      rw [hs] at e3; cases e3
      rw [getO_t, getO_t]
      exact h2 d' (inNd_lt e2) (fun hh => hd (by rw [e1, hh]))
  -- entries that stay
  have stay : ∀ u d y, Cle.mk u d y ∈ kill t cl → CleOk nd (.mk u d y) ∧ VR μ (getO y (.mk tm' (getO .w0 L) (getO .w1 L) (getO .w2 L))) ((tmps.setIfInBounds t (evT tmps x)).getD u undef) := by
    intro u d y hm
    obtain ⟨h6, h7, h8⟩ := mem_kill hm
    refine ⟨hk.cok _ h6, ?_⟩
    rw [old d y (hk.cok _ h6).1 h8, getD_set hts, if_neg (Ne.symm h7)]
    exact hk.cr u d y h6
  have fin : ∀ (new : List Cle), (∀ e ∈ new, ∃ d y, e = .mk t d y ∧ CleOk nd e ∧ VR μ (getO y (.mk tm' (getO .w0 L) (getO .w1 L) (getO .w2 L))) (evT tmps x)) →
      KnR nd μ (new ++ kill t cl) (.mk tm' (getO .w0 L) (getO .w1 L) (getO .w2 L)) (tmps.setIfInBounds t (evT tmps x)) := by
    intro new hnew
    refine ⟨fun u hu _ => h1 u hu, fun e he => ?_, fun u d y hm => ?_⟩
    · rcases List.mem_append.1 he with h3 | h3
      · obtain ⟨d, y, rfl, h4, _⟩ := hnew e h3; exact h4
      · obtain ⟨u, d, y⟩ := e; exact (stay u d y h3).1
    · rcases List.mem_append.1 hm with h3 | h3
      · obtain ⟨d', y', e3, _, h5⟩ := hnew _ h3
        cases e3
        rw [getD_set hts, if_pos rfl]; exact h5
      · exact (stay u d y h3).2
  cases x with
  | tmp v =>
    show KnR nd μ (match clGet v cl with | some (.mk _ d y) => bif depN t d then kill t cl else .mk t d y :: kill t cl | none => bif Nat.beq t v then cl else bif inNd nd v then .mk t (some v) (slotX nd v) :: kill t cl else kill t cl) _ _
    cases hg : clGet v cl with
    | none =>
      simp only
      cases htv : Nat.beq t v with
      | true =>
        have := Nat.eq_of_beq_eq_true htv; subst this
        simp only [cond_true]
        -- nothing is turned
        have hsame : tmps.setIfInBounds t (evT tmps (.tmp t)) = tmps := by
          apply Array.ext_getElem?
          intro j
          rw [Array.getElem?_setIfInBounds]
          by_cases hj : t = j
          · subst hj; simp [hts, evT, Array.getD_eq_getD_getElem?]
          · simp [hj]
        rw [hsame] at h1 ⊢
        refine ⟨fun u hu _ => h1 u hu, hk.cok, fun u d y hm => ?_⟩
        have h9 := hk.cr u d y hm
        cases y with
        | w0 => exact h9
        | w1 => exact h9
        | w2 => exact h9
        | c av => rw [getO_c] at h9 ⊢; exact h9
        | t p q r =>
          obtain ⟨d', e1, e2, e3⟩ := (hk.cok _ hm).1 p q r rfl
          have hs : slot d' Opd.t = .t (D.ofNat (d' / 64 % 8)) (D.ofNat (d' / 8 % 8)) (D.ofNat (d' % 8)) := rfl
          rw [hs] at e3; cases e3
          rw [getO_t] at h9 ⊢
          by_cases hdt : d' = t
          · subst hdt
            -- the slot holds what it held
            show VR μ (getT d' tm') _
            have e5 : getT d' tm' = getT d' L.tm := by
              have e6 : (bif inNd nd d' then Go.Ev.put (slot d' .o) (getO (opdW nd (gl E) cl (.tmp d')) L) L else L) = .mk (setT d' (getO (opdW nd (gl E) cl (.tmp d')) L) L.tm) (getO .w0 L) (getO .w1 L) (getO .w2 L) := by rw [e2]; simp only [cond_true]; rw [put_o]
              rw [e6] at e0
              cases e0
              rw [getT_setT]
              show getO (match clGet d' cl with | some (.mk _ _ x) => x | none => slotX nd d') L = _
              rw [hg]
              simp only
              rw [slotX_getO, if_pos e2]
            rw [e5]; exact h9
          · have := h2 d' (inNd_lt e2) hdt
            show VR μ (getT d' tm') _
            rw [this]; exact h9
      | false =>
        simp only [cond_false]
        have htv' : t ≠ v := fun hh => by subst hh; simp at htv
        cases hnv : inNd nd v with
        | false => simp only [cond_false]; exact fin [] (by simp)
        | true =>
          simp only [cond_true]
          refine fin [.mk t (some v) (slotX nd v)] (fun e he => ?_)
          simp only [List.mem_singleton] at he
          subst he
          have hsx : slotX nd v = slot v Opd.t := by unfold slotX; rw [hnv]; rfl
          refine ⟨_, _, rfl, ⟨fun a b c hh => ⟨v, rfl, hnv, by rw [← hh, hsx]⟩, fun av hh => by rw [hsx] at hh; cases hh⟩, ?_⟩
          rw [old (some v) (slotX nd v) (fun a b c hh => ⟨v, rfl, hnv, by rw [← hh, hsx]⟩) (fun hh => htv' (Option.some.inj hh).symm), slotX_getO, if_pos hnv]
          exact hk.need v hnv (fun h => h)
    | some e =>
      obtain ⟨h3, d, y, rfl⟩ := clGet_mem hg
      simp only
      cases hd : depN t d with
      | true => simp only [cond_true]; exact fin [] (by simp)
      | false =>
        simp only [cond_false]
        refine fin [.mk t d y] (fun e he => ?_)
        simp only [List.mem_singleton] at he
        subst he
        refine ⟨_, _, rfl, (show CleOk nd (.mk v d y) from hk.cok _ h3), ?_⟩
        rw [old d y (hk.cok _ h3).1 (fun hh => by subst hh; simp [depN] at hd)]
        exact hk.cr v d y h3
  | const v =>
    refine fin [.mk t none (.c (ofV v))] (fun e he => ?_)
    simp only [List.mem_singleton] at he
    subst he
    exact ⟨_, _, rfl, ⟨fun a b c hh => (by cases hh), fun av hh => (by cases hh; exact ofV_free v)⟩, by rw [getO_c]; exact ofV_sound μ v⟩
  | global g => exact fin [] (by simp)
  | func f =>
    refine fin [.mk t none (.c (.func (.fn (.func f)) [] []))] (fun e he => ?_)
    simp only [List.mem_singleton] at he
    subst he
    exact ⟨_, _, rfl, ⟨fun a b c hh => (by cases hh), fun av hh => (by
      cases hh
      intro V W μ ν v hv
      simp only [VR] at hv ⊢
      obtain ⟨F, gs, ds, h1, h2, h3, h4⟩ := hv
      exact ⟨F, gs, ds, h1, h2, by simpa only [VRs] using h3, by simpa only [VRs] using h4⟩)⟩, by rw [getO_c]; simp only [VR]; exact ⟨_, _, _, rfl, rfl, .nil, .nil⟩⟩
end
end
end Go.Ev

namespace Go.Ev
set_option linter.unusedVariables false
set_option linter.unusedSectionVars false
set_option linter.unusedSimpArgs false
noncomputable section
variable [Val] [Fk]
theorem ciAppend_eq (l k : List Ci) : ciAppend l k = l ++ k := by induction l with | nil => rfl | cons a l ih => show a :: ciAppend l k = _; rw [ih]; rfl
def AtR (μ : Mu) (l : Key) (b : Nat) : Prop := ∃ s n, μ l 0 = some (b, s, n)
inductive TodoR (E : Env) (x : Cx) (μ : Mu) : Cl → List Ci → List Item → Prop where
  | nil (cl) : TodoR E x μ cl [] []
  | forget {cl l k} : TodoR E x μ [] l k → TodoR E x μ cl l k
  | code {cl c l k} : TodoR E x μ (aft x.nd cl c) l k → TodoR E x μ cl (compC E x cl c ++ l) (.code c :: k)
  | inBlock {cl id l k} : TodoR E x μ [] l k → TodoR E x μ cl (.inBlock id :: l) (.inBlock id :: k)
  | inLoop {cl b l k} : TodoR E x μ [] l k → TodoR E x μ cl (.inLoop (compC E x [] b) :: l) (.inLoop b :: k)
  | inScope {cl c l k} : TodoR E x μ [] l k → TodoR E x μ cl (.inScope c :: l) (.inScope c :: k)
  | mid {cl arr i n l k} : i + n = arr.size → TodoR E x μ (aftOs x.nd cl (arr.toList.drop i)) l k → TodoR E x μ cl (.mid (compOs E arr x cl (arr.toList.drop i)) :: l) (.inRegion arr (List.range' i n) :: k)
  | endRF {cl l b rest k} : AtR μ l b → TodoR E x μ [] rest k → TodoR E x μ cl (.endRF l :: rest) (.endRangeFunc b :: k)
  | beginRound {cl l k} : TodoR E x μ [] l k → TodoR E x μ cl (.beginRound :: l) (.beginRound :: k)
theorem AtR.mono {μ ν : Mu} (h : μ.le ν) {l : Key} {b : Nat} : AtR μ l b → AtR ν l b := fun ⟨s, n, k⟩ => ⟨s, n, h _ _ _ k⟩
theorem TodoR.mono {E : Env} {x : Cx} {μ ν : Mu} (h : μ.le ν) {cl : Cl} {l : List Ci} {k : List Item} (t : TodoR E x μ cl l k) : TodoR E x ν cl l k := by
  induction t with
  | nil cl => exact .nil cl
  | forget _ ih => exact .forget ih
  | code _ ih => exact .code ih
  | inBlock _ ih => exact .inBlock ih
  | inLoop _ ih => exact .inLoop ih
  | inScope _ ih => exact .inScope ih
  | mid h1 _ ih => exact .mid h1 ih
  | endRF h1 _ ih => exact .endRF (h1.mono h) ih
  | beginRound _ ih => exact .beginRound ih
/-! jumps -/
theorem exitA_comp (E : Env) (x : Cx) (id : Nat) : ∀ (c : Code) (cl : Cl) (l : List Ci), exitA id (compC E x cl c ++ l) = exitA id l := by
  intro c
  induction c with
  | skip => intro cl l; rfl
  | region _ _ _ => intro cl l; rfl
  | seq a b iha ihb => intro cl l; simp only [compC, List.append_assoc]; rw [iha, ihb]
  | cond _ _ _ _ _ => intro cl l; rfl
  | block _ _ _ => intro cl l; rfl
  | loop _ _ => intro cl l; rfl
  | rangeFunc _ _ _ _ _ _ => intro cl l; rfl
  | exit _ => intro cl l; rfl
  | scope _ _ => intro cl l; rfl
  | label _ => intro cl l; rfl
  | goto _ => intro cl l; rfl
  | ret => intro cl l; rfl
  | refuse _ => intro cl l; rfl
theorem gotoA_comp (E : Env) (x y : Cx) (t : Nat) : ∀ (c : Code) (cl : Cl) (l : List Ci), gotoA E y t (compC E x cl c ++ l) = gotoA E y t l := by
  intro c
  induction c with
  | skip => intro cl l; rfl
  | region _ _ _ => intro cl l; rfl
  | seq a b iha ihb => intro cl l; simp only [compC, List.append_assoc]; rw [iha, ihb]
  | cond _ _ _ _ _ => intro cl l; rfl
  | block _ _ _ => intro cl l; rfl
  | loop _ _ => intro cl l; rfl
  | rangeFunc _ _ _ _ _ _ => intro cl l; rfl
  | exit _ => intro cl l; rfl
  | scope _ _ => intro cl l; rfl
  | label _ => intro cl l; rfl
  | goto _ => intro cl l; rfl
  | ret => intro cl l; rfl
  | refuse _ => intro cl l; rfl
section
variable {E : Env} {x : Cx} {μ : Mu}
theorem TodoR.exit {id : Nat} {cl : Cl} {l : List Ci} {k : List Item} (t : TodoR E x μ cl l k) :
    match exitA id l with
    | some l' => ∃ k', exitTo id k = some k' ∧ TodoR E x μ [] l' k'
    | none => exitTo id k = none := by
  induction t with
  | nil cl => rfl
  | forget _ ih => exact ih
  | @code cl c l k t ih => rw [exitA_comp]; exact ih
  | @inBlock cl id' l k t ih =>
    simp only [exitA]
    cases hb : Nat.beq id' id with
    | true =>
      have := Nat.eq_of_beq_eq_true hb; subst this
      simp only [cond_true, exitTo, beq_self_eq_true, if_true]
      exact ⟨k, rfl, t⟩
    | false =>
      have hne : id' ≠ id := fun hh => by subst hh; simp at hb
      simp only [cond_false, exitTo, beq_iff_eq, hne, if_false]
      exact ih
  | inLoop _ ih => exact ih
  | inScope _ ih => exact ih
  | mid _ _ ih => exact ih
  | endRF _ _ ih => exact ih
  | beginRound _ ih => exact ih
theorem TodoR.goto {t : Nat} {cl : Cl} {l : List Ci} {k : List Item} (h : TodoR E x μ cl l k) :
    match gotoA E x t l with
    | some l' => ∃ k', gotoIn t k = some k' ∧ TodoR E x μ [] l' k'
    | none => gotoIn t k = none := by
  induction h with
  | nil cl => rfl
  | forget _ ih => exact ih
  | @code cl c l k _ ih => rw [gotoA_comp]; exact ih
  | inBlock _ ih => exact ih
  | inLoop _ ih => exact ih
  | @inScope cl c l k h ih =>
    simp only [gotoA, gotoIn]
    cases hf : findLabel c t with
    | some rest =>
      simp only
      refine ⟨_, rfl, ?_⟩
      rw [ciAppend_eq]
      exact .code (.forget (.inScope h))
    | none => simp only; exact ih
  | mid _ _ ih => exact ih
  | endRF _ _ ih => exact ih
  | beginRound _ ih => exact ih
/-! the head of what is left to do -/
inductive HeadR (E : Env) (x : Cx) (μ : Mu) : Cl → List Ci → List Item → Prop where
  | nil (cl) : HeadR E x μ cl [] []
  | reg {cl id ops dr l k} : TodoR E x μ (aft x.nd cl (.region id ops dr)) l k → HeadR E x μ cl (.reg (regIns E ops dr x cl) :: l) (.code (.region id ops dr) :: k)
  | cond {cl y a b l k} : TodoR E x μ [] l k → HeadR E x μ cl (.cond (opdW x.nd (gl E) cl y) (compC E x cl a) (compC E x cl b) :: l) (.code (.cond y a b) :: k)
  | block {cl id b l k} : TodoR E x μ [] l k → HeadR E x μ cl (.block id (compC E x cl b) :: l) (.code (.block id b) :: k)
  | inBlock {cl id l k} : TodoR E x μ [] l k → HeadR E x μ cl (.inBlock id :: l) (.inBlock id :: k)
  | loop {cl b l k} : TodoR E x μ [] l k → HeadR E x μ cl (.loop (compC E x [] b) :: l) (.code (.loop b) :: k)
  | inLoop {cl b l k} : TodoR E x μ [] l k → HeadR E x μ cl (.inLoop (compC E x [] b) :: l) (.inLoop b :: k)
  | scope {cl c l k} : TodoR E x μ [] l k → HeadR E x μ cl (.scope c :: l) (.code (.scope c) :: k)
  | inScope {cl c l k} : TodoR E x μ [] l k → HeadR E x μ cl (.inScope c :: l) (.inScope c :: k)
  | exit {cl id l k} : TodoR E x μ [] l k → HeadR E x μ cl (.exit id :: l) (.code (.exit id) :: k)
  | goto {cl t l k} : TodoR E x μ [] l k → HeadR E x μ cl (.goto t :: l) (.code (.goto t) :: k)
  | ret {cl l k} : TodoR E x μ [] l k → HeadR E x μ cl (.ret :: l) (.code .ret :: k)
  | rangeF {cl f ps a b l k} : TodoR E x μ [] l k → HeadR E x μ cl (.rangeF (opdW x.nd (gl E) cl f) ps.toList a b :: l) (.code (.rangeFunc f ps a b) :: k)
  | refuse {cl l k} : HeadR E x μ cl (.bad :: l) k
  | mid {cl arr i n l k} : i + n = arr.size → TodoR E x μ (aftOs x.nd cl (arr.toList.drop i)) l k → HeadR E x μ cl (.mid (compOs E arr x cl (arr.toList.drop i)) :: l) (.inRegion arr (List.range' i n) :: k)
  | endRF {cl l b rest k} : AtR μ l b → TodoR E x μ [] rest k → HeadR E x μ cl (.endRF l :: rest) (.endRangeFunc b :: k)
  | beginRound {cl l k} : TodoR E x μ [] l k → HeadR E x μ cl (.beginRound :: l) (.beginRound :: k)
def csize : Code → Nat
  | .seq a b => csize a + csize b + 1
  | _ => 1
def isize : List Item → Nat
  | [] => 0
  | .code c :: k => csize c + isize k
  | _ :: k => isize k
theorem TodoR.head {P : Program} : ∀ (n : Nat) {cl : Cl} {l : List Ci} {k : List Item}, isize k ≤ n → TodoR E x μ cl l k → ∃ cl' k', (cl' = cl ∨ cl' = []) ∧ HeadR E x μ cl' l k' ∧
    ∀ (fr : Frame) (cs : List Frame) (w : World), fr.mode = .run → fr.todo = k → Steps P (lone fr cs w) (lone (Frame.to fr k') cs w) := by
  intro n
  induction n using Nat.strongRecOn with
  | ind n ihn =>
    intro cl l k hk t
    have same : ∀ {cl' : Cl} {k : List Item}, (cl' = cl ∨ cl' = []) → HeadR E x μ cl' l k → ∃ cl' k', (cl' = cl ∨ cl' = []) ∧ HeadR E x μ cl' l k' ∧
        ∀ (fr : Frame) (cs : List Frame) (w : World), fr.mode = .run → fr.todo = k → Steps P (lone fr cs w) (lone (Frame.to fr k') cs w) := by
      intro cl' k h1 h2
      refine ⟨cl', k, h1, h2, fun fr cs w _ ht => ?_⟩
      subst ht
      exact .refl _ _
    induction t with
    | nil cl => exact same (.inl rfl) (.nil cl)
    | forget t ih =>
      obtain ⟨cl', k', h1, h2, h3⟩ := ih hk (fun {cl'} {k} h1 h2 => by
        refine ⟨cl', k, h1, h2, fun fr cs w _ ht => ?_⟩
        subst ht
        exact .refl _ _)
      exact ⟨cl', k', .inr (by rcases h1 with h | h <;> exact h), h2, h3⟩
    | @code cl c l k t ih =>
      cases c with
      | skip =>
        obtain ⟨cl', k', h1, h2, h3⟩ := ihn (isize k) (by simp only [isize, csize] at hk; omega) (Nat.le_refl _) (show TodoR E x μ cl l k from t)
        exact ⟨cl', k', h1, h2, fun fr cs w hm ht => .head (s_skip hm ht) (h3 (Frame.to fr k) cs w hm rfl)⟩
      | label t' =>
        obtain ⟨cl', k', h1, h2, h3⟩ := ihn (isize k) (by simp only [isize, csize] at hk; omega) (Nat.le_refl _) (show TodoR E x μ [] l k from t)
        exact ⟨cl', k', .inr (by rcases h1 with h | h <;> exact h), h2, fun fr cs w hm ht => .head (s_label hm ht) (h3 (Frame.to fr k) cs w hm rfl)⟩
      | seq a b =>
        have t' : TodoR E x μ cl (compC E x cl a ++ (compC E x (aft x.nd cl a) b ++ l)) (.code a :: .code b :: k) := .code (.code t)
        obtain ⟨cl', k', h1, h2, h3⟩ := ihn (isize (.code a :: .code b :: k)) (by simp only [isize, csize] at hk ⊢; omega) (Nat.le_refl _) t'
        refine ⟨cl', k', h1, by simp only [compC, List.append_assoc]; exact h2, fun fr cs w hm ht => .head (s_seq hm ht) (h3 (Frame.to fr _) cs w hm rfl)⟩
      | region id ops dr => exact same (.inl rfl) (.reg t)
      | cond y a b => exact same (.inl rfl) (.cond t)
      | block id b => exact same (.inl rfl) (.block t)
      | loop b => exact same (.inl rfl) (.loop t)
      | rangeFunc f ps a b => exact same (.inl rfl) (.rangeF t)
      | exit id => exact same (.inl rfl) (.exit t)
      | scope b => exact same (.inl rfl) (.scope t)
      | goto t' => exact same (.inl rfl) (.goto t)
      | ret => exact same (.inl rfl) (.ret t)
      | refuse w => exact same (.inl rfl) .refuse
    | inBlock t ih => exact same (.inl rfl) (.inBlock t)
    | inLoop t ih => exact same (.inl rfl) (.inLoop t)
    | inScope t ih => exact same (.inl rfl) (.inScope t)
    | mid h1 t ih => exact same (.inl rfl) (.mid h1 t)
    | endRF h1 t ih => exact same (.inl rfl) (.endRF h1 t)
    | beginRound t ih => exact same (.inl rfl) (.beginRound t)
end
end
end Go.Ev

namespace Go.Ev
set_option linter.unusedVariables false
set_option linter.unusedSectionVars false
set_option linter.unusedSimpArgs false
noncomputable section
variable [Val] [Fk]
/-! ## regions that draw: what may not be done yet -/
def qOf (E : Env) (x : Cx) : Operand → Opd := opdW x.nd (gl E) []
def pre (arr : Array Oper) (i : Nat) : Nat := (Region.before arr).getD i 0
structure LinR (arr : Array Oper) (idxs : List Nat) : Prop where
  lt : ∀ i ∈ idxs, i < arr.size
  nodup : idxs.Nodup
  ord : ∀ a j b, idxs = a ++ j :: b → ∀ p, inM (pre arr j) p = true → p < arr.size ∧ p ∉ j :: b
def guardOf (arr : Array Oper) (o : Oper) : Option (Operand × Bool) :=
  match o.guard with
  | none => none
  | some (j, want) => match arr[j]? with
    | some p => match p.dst with
      | some t => some (.tmp t, want)
      | none => none
    | none => none
def GOn (E : Env) (x : Cx) (arr : Array Oper) (o : Oper) (L : Lo) : Prop :=
  o.guard = none ∨ ∃ y want, guardOf arr o = some (y, want) ∧ getO (qOf E x y) L = .bool want
def GOff (E : Env) (x : Cx) (arr : Array Oper) (o : Oper) (L : Lo) : Prop :=
  ∃ y want, guardOf arr o = some (y, want) ∧ (getO (qOf E x y) L = .bool (!want) ∨ ∃ vs, getO (qOf E x y) L = .tuple vs)
def tgtV (L : Lo) (o : Oper) : AV := match o.dst with | some t => getT t L.tm | none => undefA
def keyOfA : AV → Option Key
  | .ptr f _ _ => some f
  | .slice f _ _ _ _ _ _ => some f
  | .map f => some f
  | _ => none
def pk (E : Env) (x : Cx) (arr : Array Oper) (d : Nat) (L : Lo) (i : Nat) : Option Key :=
  match arr[i]? with
  | some o => bif inM d i then (match insU (qOf E x) E .no o with | .al _ _ => keyOfA (tgtV L o) | _ => none) else none
  | none => none
def Agr (E : Env) (x : Cx) (o : Oper) (L0 L : Lo) : Prop := ∀ y ∈ o.op.operands.toList, getO (qOf E x y) L0 = getO (qOf E x y) L
def PendL (E : Env) (x : Cx) (arr : Array Oper) (o : Oper) (L : Lo) : Prop :=
  (GOff E x arr o L ∧ ∀ t, o.dst = some t → getT t L.tm = undefA) ∨
  (GOn E x arr o L ∧ match insU (qOf E x) E .no o with
    | .pu _ p => memP p = true ∨ ∃ L0, Agr E x o L0 L ∧ ∀ h, ∃ v, p.ev E h L0 = some v ∧ ∀ t, o.dst = some t → v = getT t L.tm
    | .al _ _ => True
    | _ => False)
def PendH (E : Env) (x : Cx) (arr : Array Oper) (h : Hp) (o : Oper) (L : Lo) : Prop :=
  GOff E x arr o L ∨ match insU (qOf E x) E .no o with
    | .pu _ p => memP p = true → ∃ L0, Agr E x o L0 L ∧ ∃ v, p.ev E h L0 = some v ∧ ∀ t, o.dst = some t → v = getT t L.tm
    | .al _ p => ∃ L0 f, Agr E x o L0 L ∧ keyOfA (tgtV L o) = some f ∧ (hget f h).isNone = false ∧ p.ev h f L0 = some (hget f h, tgtV L o)
    | _ => False
structure DrSt (E : Env) (x : Cx) (arr : Array Oper) : Prop where
  ops : (arr.toList.all fun o => okD x.n o.dst && (resOk E x.res o && dstOk E (opdW x.nd (gl E) []) o)) = true
  order : orderOk E arr (marked arr) = true
structure DrI (E : Env) (x : Cx) (arr : Array Oper) (d : Nat) (qs : List (Nat × Oper × Nat)) (idxs : List Nat) (μ : Mu) (L : Lo) (tmps : Array Value) : Prop where
  lin : LinR arr idxs
  cd : ∀ i, i < arr.size → i ∉ idxs → inM d i = true
  dcl : ∀ i p, i < arr.size → inM d i = true → inM (pre arr i) p = true → inM d p = true
  hqs : ∀ i ∈ idxs, inM d i = true → ∃ o m, (i, o, m) ∈ qs
  qsm : ∀ e ∈ qs, e ∈ marked arr ∧ isQ E e.2.1 = true
  need : NeedR x.nd (fun t => ∃ i ∈ idxs, inM d i = true ∧ ∃ o, arr[i]? = some o ∧ o.dst = some t) μ L.tm tmps
  pl : ∀ i o, i ∈ idxs → inM d i = true → arr[i]? = some o → PendL E x arr o L
/-! ## frames -/
def PEsR (μ : Mu) : List PE → List PanicEntry → Prop
  | [], l => l = []
  | .mk v r :: es, l => ∃ u l', l = { v := u, recovered := r, goexit := false } :: l' ∧ VR μ v u ∧ PEsR μ es l'
def MdR (μ : Mu) : Md → FrameMode → Prop
  | .run, m => m = .run
  | .returning, m => m = .returning
  | .panicking ch, m => ∃ ch', m = .panicking ch' ∧ PEsR μ ch ch'
def RndR (μ : Mu) : Option Key → Option Nat → Prop
  | none, r => r = none
  | some l, r => ∃ b, AtR μ l b ∧ r = some b
inductive FiR (E : Env) (μ : Mu) : FI → Frame → Prop where
  | mk {fn ds md dd rnd fr} : fr.fn = fn → DfsR μ ds fr.defers → MdR μ md fr.mode → fr.kind = (if dd then .deferred else .normal) → RndR μ rnd fr.roundOf → nOf E fn ≤ fr.tmps.size →
      (∃ f, E.fs.get fn = some f) → FiR E μ (.mk fn ds md dd rnd) fr
def Left (arr : Array Oper) (d : Nat) (td : List (Nat × Oper × Nat)) : Prop := td.Nodup ∧ ∀ e, e ∈ td ↔ e ∈ marked arr ∧ inM d e.1 = false
inductive DrawnB (E : Env) (x : Cx) (μ : Mu) (L : Lo) (tmps : Array Value) : List Ci → List Item → List Key → Prop where
  | wait {arr i o idxs fuel d qs td rest k} : DrSt E x arr → TodoR E x μ [] rest k → arr[i]? = some o → isQ E o = false → inM d i = false → Left arr (Nat.lor d (Nat.pow 2 i)) td →
      DrI E x arr d qs (i :: idxs) μ L tmps →
      DrawnB E x μ L tmps (.wait (dst o.dst) (.chk (pend E (qOf E x) arr (pre arr i) qs) :: plan E (qOf E x) arr fuel (Nat.lor d (Nat.pow 2 i)) (qs.filter fun e => !inM (pre arr i) e.1) td) :: rest)
        (.inRegion arr (i :: idxs) :: k) (idxs.filterMap (pk E x arr d L))
  | mid {arr i idxs fuel d qs td rest k} : DrSt E x arr → TodoR E x μ [] rest k → Left arr d td →
      DrI E x arr d qs idxs μ L tmps → (∀ p, inM (pre arr i) p = true → p ∉ idxs) →
      DrawnB E x μ L tmps (.mid (.chk (pend E (qOf E x) arr (pre arr i) qs) :: plan E (qOf E x) arr fuel d (qs.filter fun e => !inM (pre arr i) e.1) td) :: rest)
        (.inRegion arr idxs :: k) (idxs.filterMap (pk E x arr d L))
inductive BodyR (E : Env) (fn : Nat) (μ : Mu) (L : Lo) (tmps : Array Value) : Md → List Ci → List Item → List Key → Prop where
  | plain {cl l k} : KnR (cxOf E fn).nd μ cl L tmps → TodoR E (cxOf E fn) μ cl l k → BodyR E fn μ L tmps .run l k []
  | waitP {cl : Cl} {arr : Array Oper} {i n l k} {o : Oper} : KnR (cxOf E fn).nd μ cl L tmps → i + 1 + n = arr.size → arr[i]? = some o → okD (cxOf E fn).n o.dst = true →
      TodoR E (cxOf E fn) μ (aftOs (cxOf E fn).nd (pushCl o.dst cl) (arr.toList.drop (i + 1))) l k →
      BodyR E fn μ L tmps .run (.wait (dstN (cxOf E fn).nd o.dst) (compOs E arr (cxOf E fn) (pushCl o.dst cl) (arr.toList.drop (i + 1))) :: l) (.inRegion arr (List.range' i (n + 1)) :: k) []
  | inRFP {l b rest k} : KnR (cxOf E fn).nd μ [] L tmps → AtR μ l b → TodoR E (cxOf E fn) μ [] rest k → BodyR E fn μ L tmps .run (.inRF l :: rest) (.inRangeFunc b :: k) []
  | drawn {l k F} : DrawnB E (cxOf E fn) μ L tmps l k F → BodyR E fn μ L tmps .run l k F
  | out {md l k X} : (match md with | .run => False | _ => True) → NeedR (cxOf E fn).nd X μ L.tm tmps → (∀ t, inM (cxOf E fn).res t = true → ¬ X t) → BodyR E fn μ L tmps md l k []
inductive FrR (E : Env) (μ : Mu) : Lo → List Ci → FI → Frame → List Key → Prop where
  | mk {L todo fn ds md dd rnd fr F} : FiR E μ (.mk fn ds md dd rnd) fr → BodyR E fn μ L fr.tmps md todo fr.todo F → FrR E μ L todo (.mk fn ds md dd rnd) fr F
inductive StR (E : Env) (μ : Mu) : List Fr → List Frame → List Key → Prop where
  | nil : StR E μ [] [] []
  | cons {L todo fi fr cs frs F Fs} : FrR E μ L todo fi fr F → StR E μ cs frs Fs → StR E μ (.mk L todo fi :: cs) (fr :: frs) (F ++ Fs)
def Kept1 (μ : Mu) (h : Hp) (F : List Key) : Prop := F.Nodup ∧ ∀ f ∈ F, (hget f h).isNone = false ∧ ∀ g, μ f g = none
structure Call0 where
  cs0 : List Frame
  W : World
inductive Sim (E : Env) (P : Program) (C : Call0) : Cfg → Machine → Prop where
  | mk {L todo fi cs h nx μ fr frs F Fs w} : HR C.W.heap.size μ h w → GR E μ → Ext C.W.heap.size C.W w → FrR E μ L todo fi fr F → StR E μ cs frs Fs → Kept1 μ h (F ++ Fs) →
      Sim E P C (.mk L todo fi cs h nx) (lone fr (frs ++ C.cs0) w)
def Done (E : Env) (P : Program) (C : Call0) (a : AV) (m : Machine) : Prop := ∃ fr w v μ, Steps P m (lone fr C.cs0 w) ∧ fr.leaving P w (.returned v) ∧ VR μ a v ∧ Ext C.W.heap.size C.W w ∧ fr.fn = E.root
def Good (E : Env) (P : Program) (C : Call0) : Sp → Machine → Prop
  | .go c, m => ∃ m', Steps P m m' ∧ Sim E P C c m'
  | .br l, m => ∃ c ∈ l, ∃ m', Steps P m m' ∧ Sim E P C c m'
  | .done a, m => Done E P C a m
  | .fail, _ => True
theorem Good.of_steps {E : Env} {P : Program} {C : Call0} {s : Sp} {m m' : Machine} (h : Steps P m m') (g : Good E P C s m') : Good E P C s m := by
  cases s with
  | go c => obtain ⟨m2, h1, h2⟩ := g; exact ⟨m2, h.trans h1, h2⟩
  | br l => obtain ⟨c, hc, m2, h1, h2⟩ := g; exact ⟨c, hc, m2, h.trans h1, h2⟩
  | done a => obtain ⟨fr, w, v, μ, h1, h2⟩ := g; exact ⟨fr, w, v, μ, h.trans h1, h2⟩
  | fail => trivial
/-! mono -/
theorem PEsR.mono {μ ν : Mu} (h : μ.le ν) : ∀ {a : List PE} {b : List PanicEntry}, PEsR μ a b → PEsR ν a b
  | [], b, k => k
  | .mk v r :: a, b, k => by obtain ⟨u, l', e, h1, h2⟩ := k; exact ⟨u, l', e, VR.mono h _ _ h1, PEsR.mono h h2⟩
theorem MdR.mono {μ ν : Mu} (h : μ.le ν) : ∀ {a : Md} {b : FrameMode}, MdR μ a b → MdR ν a b
  | .run, b, k => k
  | .returning, b, k => k
  | .panicking ch, b, k => by obtain ⟨ch', e, h1⟩ := k; exact ⟨ch', e, h1.mono h⟩
theorem RndR.mono {μ ν : Mu} (h : μ.le ν) : ∀ {a : Option Key} {b : Option Nat}, RndR μ a b → RndR ν a b
  | none, b, k => k
  | some l, b, k => by obtain ⟨b', h1, h2⟩ := k; exact ⟨b', h1.mono h, h2⟩
theorem FiR.mono {E : Env} {μ ν : Mu} (h : μ.le ν) {fi : FI} {fr : Frame} (k : FiR E μ fi fr) : FiR E ν fi fr := by
  cases k with
  | mk h1 h2 h3 h4 h5 h6 h7 => exact .mk h1 (h2.mono h) (h3.mono h) h4 (h5.mono h) h6 h7
theorem DrI.mono {E : Env} {x : Cx} {arr : Array Oper} {d : Nat} {qs : List (Nat × Oper × Nat)} {idxs : List Nat} {μ ν : Mu} {L : Lo} {tmps : Array Value} (h : μ.le ν) (k : DrI E x arr d qs idxs μ L tmps) :
    DrI E x arr d qs idxs ν L tmps := ⟨k.lin, k.cd, k.dcl, k.hqs, k.qsm, k.need.mono h, k.pl⟩
theorem DrawnB.mono {E : Env} {x : Cx} {μ ν : Mu} (h : μ.le ν) {L : Lo} {tmps : Array Value} {l : List Ci} {k : List Item} {F : List Key} (b : DrawnB E x μ L tmps l k F) : DrawnB E x ν L tmps l k F := by
  cases b with
  | wait h1 h2 h3 h4 h5 h6 h7 => exact .wait h1 (h2.mono h) h3 h4 h5 h6 (h7.mono h)
  | mid h1 h2 h3 h4 h5 => exact .mid h1 (h2.mono h) h3 (h4.mono h) h5
theorem BodyR.mono {E : Env} {fn : Nat} {μ ν : Mu} (h : μ.le ν) {L : Lo} {tmps : Array Value} {md : Md} {l : List Ci} {k : List Item} {F : List Key} (b : BodyR E fn μ L tmps md l k F) : BodyR E fn ν L tmps md l k F := by
  cases b with
  | plain h1 h2 => exact .plain (h1.mono h) (h2.mono h)
  | waitP h1 h2 h3 h4 h5 => exact .waitP (h1.mono h) h2 h3 h4 (h5.mono h)
  | inRFP h1 h2 h3 => exact .inRFP (h1.mono h) (h2.mono h) (h3.mono h)
  | drawn h1 => exact .drawn (h1.mono h)
  | out h0 h1 h2 => exact .out h0 (h1.mono h) h2
theorem FrR.mono {E : Env} {μ ν : Mu} (h : μ.le ν) {L : Lo} {l : List Ci} {fi : FI} {fr : Frame} {F : List Key} (b : FrR E μ L l fi fr F) : FrR E ν L l fi fr F := by
  cases b with
  | mk h1 h2 => exact .mk (h1.mono h) (h2.mono h)
theorem StR.mono {E : Env} {μ ν : Mu} (h : μ.le ν) {cs : List Fr} {frs : List Frame} {F : List Key} (b : StR E μ cs frs F) : StR E ν cs frs F := by
  induction b with
  | nil => exact .nil
  | cons h1 _ ih => exact .cons (h1.mono h) ih
theorem GR.mono {E : Env} {μ ν : Mu} (h : μ.le ν) (k : GR E μ) : GR E ν := fun g hg => by obtain ⟨n, hn⟩ := k g hg; exact ⟨n, h _ _ _ hn⟩
theorem Kept1.kp {μ ν : Mu} {h h' : Hp} {F : List Key} (k : Kept1 μ h F) (hk : Kp h μ h' ν) : Kept1 ν h' F := ⟨k.1, fun f hf => by
  obtain ⟨h1, h2⟩ := k.2 f hf
  obtain ⟨h3, h4⟩ := hk f h1
  exact ⟨h3, h4 h2⟩⟩
end
end Go.Ev

namespace Go.Ev
set_option linter.unusedVariables false
set_option linter.unusedSectionVars false
set_option linter.unusedSimpArgs false
noncomputable section
variable [Val] [Fk]
section
variable {E : Env} {P : Program} (hE : EnvOk E P) {C : Call0}
structure At (E : Env) (P : Program) (C : Call0) (ih : Ko) (l : List Ins) (rest : List Ci) (fn : Nat) (ds : List Df) (dd : Bool) (rnd : Option Key) (cs : List Fr) (d : Dst) (L : Lo) (h : Hp) (nx : Key)
    (μ : Mu) (fr : Frame) (frs : List Frame) (F Fs : List Key) (w : World) (arr : Array Oper) (i : Nat) (is : List Nat) (k : List Item) (o : Oper) : Prop where
  hr : HR C.W.heap.size μ h w
  gr : GR E μ
  ext : Ext C.W.heap.size C.W w
  fi : FiR E μ (.mk fn ds .run dd rnd) fr
  st : StR E μ cs frs Fs
  kept : Kept1 μ h (F ++ Fs)
  todo : fr.todo = .inRegion arr (i :: is) :: k
  op : arr[i]? = some o
  wait : ∀ ν, μ.le ν → BodyR E fn ν L fr.tmps .run (.wait d l :: rest) fr.todo F
  mid : ∀ ν a v, μ.le ν → VR ν a v → BodyR E fn ν (put d a L) (fr.finish v).tmps .run (.mid l :: rest) (fr.finish v).todo F
  out : ∃ X, NeedR (cxOf E fn).nd X μ L.tm fr.tmps ∧ ∀ t, inM (cxOf E fn).res t = true → ¬ X t
  go : ∀ ν a v h' nx' w' ds' fr' cs' frs', μ.le ν → VR ν a v → HR C.W.heap.size ν h' w' → GR E ν → Ext C.W.heap.size C.W w' → FiR E ν (.mk fn ds' .run dd rnd) fr' → fr'.tmps = fr.tmps → fr'.todo = fr.todo →
    StR E ν cs' frs' Fs → Kept1 ν h' (F ++ Fs) → Good E P C (ih (.mk rest (.mk fn ds' .run dd rnd) cs') (put d a L) h' nx') (lone (fr'.finish v) (frs' ++ C.cs0) w')
variable {ih : Ko} {l : List Ins} {rest : List Ci} {fn : Nat} {ds : List Df} {dd : Bool} {rnd : Option Key} {cs : List Fr} {d : Dst} {L : Lo} {h : Hp} {nx : Key}
    {μ : Mu} {fr : Frame} {frs : List Frame} {F Fs : List Key} {w : World} {arr : Array Oper} {i : Nat} {is : List Nat} {k : List Item} {o : Oper}
theorem At.mode (a : At E P C ih l rest fn ds dd rnd cs d L h nx μ fr frs F Fs w arr i is k o) : fr.mode = .run := by
  cases a.fi with
  | mk h1 h2 h3 h4 h5 h6 h7 => exact h3
theorem At.size (a : At E P C ih l rest fn ds dd rnd cs d L h nx μ fr frs F Fs w arr i is k o) : C.W.heap.size ≤ w.heap.size := a.ext.size
theorem finish_todo (fr : Frame) (v : Value) (ht : fr.todo = .inRegion arr (i :: is) :: k) : (fr.finish v).todo = .inRegion arr is :: k := by
  obtain ⟨fn, tmps, todo, ds, md, kd, rnd⟩ := fr
  simp only at ht; subst ht
  rfl
theorem finish_tmps (fr : Frame) (v : Value) (ht : fr.todo = .inRegion arr (i :: is) :: k) (ho : arr[i]? = some o) : (fr.finish v).tmps = match o.dst with | some t => fr.tmps.setIfInBounds t v | none => fr.tmps := by
  obtain ⟨fn, tmps, todo, ds, md, kd, rnd⟩ := fr
  simp only at ht; subst ht
  simp only [Frame.finish, ho, Option.bind_some]
  cases o.dst <;> rfl
theorem finish_rest (fr : Frame) (v : Value) (ht : fr.todo = .inRegion arr (i :: is) :: k) : (fr.finish v).fn = fr.fn ∧ (fr.finish v).defers = fr.defers ∧ (fr.finish v).mode = fr.mode ∧ (fr.finish v).kind = fr.kind ∧ (fr.finish v).roundOf = fr.roundOf := by
  obtain ⟨fn, tmps, todo, ds, md, kd, rnd⟩ := fr
  simp only at ht; subst ht
  exact ⟨rfl, rfl, rfl, rfl, rfl⟩
theorem FiR.finish {fi : FI} (hf : FiR E μ fi fr) (v : Value) (ht : fr.todo = .inRegion arr (i :: is) :: k) (ho : arr[i]? = some o) : FiR E μ fi (fr.finish v) := by
  obtain ⟨e1, e2, e3, e4, e5⟩ := finish_rest fr v ht
  have e6 := finish_tmps fr v ht ho
  cases hf with
  | mk h1 h2 h3 h4 h5 h6 h7 =>
    refine .mk (e1.trans h1) (e2 ▸ h2) (e3 ▸ h3) (e4.trans h4) (e5 ▸ h5) ?_ h7
    rw [e6]; cases o.dst <;> simpa using h6
theorem exec_step {nxt : Next} {v : Value} {w' : World} (hm : fr.mode = .run) (ht : fr.todo = .inRegion arr (i :: is) :: k) (ho : arr[i]? = some o) (hw : Region.wanted o (yielded arr fr.tmps) = true) (hd : ∀ c, o.op ≠ .defer c)
    (hr : (execOp fr.eval o).run P w = .ok nxt w') (hv : nextV nxt = some v) (cs : List Frame) : Steps P (lone fr cs w) (lone (fr.finish v) cs w') := by
  have hs := stepG_oper (P := P) (cs := cs) (w := w) hm ht ho hw (.inr hd)
  cases nxt <;> first | (cases hv; done) | skip
  · cases hv
    exact .one (next_of (by rw [hs]; exact apply_value hr))
  · cases hv
    exact .one (next_of (by rw [hs]; exact apply_skip hr))
include hE in
theorem u_good {q : Operand → Opd} (hq : ∀ x, VR μ (getO (q x) L) (fr.eval x)) (a : At E P C ih l rest fn ds dd rnd cs d L h nx μ fr frs F Fs w arr i is k o)
    (hw : Region.wanted o (yielded arr fr.tmps) = true)
    (hct : ∀ c, insU q E d o = .ct d c → Good E P C (c.run E d l ih (.mk rest (.mk fn ds .run dd rnd) cs) L h nx) (lone fr (frs ++ C.cs0) w)) :
    Good E P C ((insU q E d o).run E l ih (.mk rest (.mk fn ds .run dd rnd) cs) L h nx) (lone fr (frs ++ C.cs0) w) := by
  obtain ⟨dst, op, ty, pos, af, gd⟩ := o
  have hm := a.mode
  have hB := a.size
  have notD : kindOf E op ≠ 3 → ∀ c, (⟨dst, op, ty, pos, af, gd⟩ : Oper).op ≠ .defer c := fun hk c hh => by
    simp only at hh; subst hh; exact hk rfl
  unfold insU at hct ⊢
  simp only at hct ⊢
  split
  · -- quiet
    rename_i hk
    show Good E P C (opt ((pureI q E op).ev E h L) .fail fun v => ih _ (put d v L) h nx) _
    cases hev : (pureI q E op).ev E h L with
    | none => trivial
    | some x =>
      simp only [opt_some]
      obtain ⟨v, hr, hv⟩ := pure_sound (d := dst) (ty := ty) (pos := pos) (af := af) (gd := gd) hE a.hr a.gr hq hev
      refine Good.of_steps (exec_step hm a.todo a.op hw (notD (by rw [hk]; decide)) hr rfl _) ?_
      exact a.go μ x v h nx w ds fr cs frs (Mu.le_refl _) hv a.hr a.gr a.ext a.fi rfl rfl a.st a.kept
  · -- makes an object
    rename_i hk
    show Good E P C (opt ((allocI q E op).ev h nx L) .fail fun r => Prod.rec (motive := fun _ => Sp) (fun o v => cnd (hget nx h).isNone (ih _ (put d v L) (hset nx o h) nx.next) .fail) r) _
    cases hev : (allocI q E op).ev h nx L with
    | none => trivial
    | some r =>
      obtain ⟨ob, x⟩ := r
      simp only [opt_some]
      cases hnx : (hget nx h).isNone with
      | false => trivial
      | true =>
        simp only [cnd_true]
        obtain ⟨v, w', ν, hr, hv, hle, hh, he, hkp⟩ := alloc_sound (d := dst) (ty := ty) (pos := pos) (af := af) (gd := gd) hE a.hr hnx hB hq hev
        refine Good.of_steps (exec_step hm a.todo a.op hw (notD (by rw [hk]; decide)) hr rfl _) ?_
        exact a.go ν x v _ _ w' ds fr cs frs hle hv hh (a.gr.mono hle) (a.ext.trans he) (a.fi.mono hle) rfl rfl (a.st.mono hle) (a.kept.kp hkp)
  · -- turns memory
    rename_i hk
    show Good E P C (opt ((effI q E op).ev E h nx L) .fail fun r => Tn.rec (motive := fun _ => Sp) (fun v h nx => ih _ (put d v L) h nx) r) _
    cases hev : (effI q E op).ev E h nx L with
    | none => trivial
    | some r =>
      obtain ⟨x, h', nx'⟩ := r
      simp only [opt_some]
      obtain ⟨v, nxt, w', ν, hr, hnv, hv, hle, hh, he, hkp⟩ := eff_sound (d := dst) (ty := ty) (pos := pos) (af := af) (gd := gd) hE a.hr hB hq (fun f => rfl) hev
      refine Good.of_steps (exec_step hm a.todo a.op hw (notD (by rw [hk]; decide)) hr hnv _) ?_
      exact a.go ν x v _ _ w' ds fr cs frs hle hv hh (a.gr.mono hle) (a.ext.trans he) (a.fi.mono hle) rfl rfl (a.st.mono hle) (a.kept.kp hkp)
  · rename_i hk
    exact hct _ (by simp only [hk])
  · trivial
omit hE in
theorem HR.refine {B : Nat} {μ : Mu} {h : Hp} {w : World} (k : HR B μ h w) {f : Key} {lo hi lo' hi' : Int} (ho : hget f h = .iv lo hi) (h1 : lo' ≤ Val.n f) (h2 : Val.n f ≤ hi') : HR B μ (hset f (.iv lo' hi') h) w :=
  ⟨k.inj, k.lt, fun f' => by
    by_cases e : f = f'
    · subst e
      rw [hget_hset]
      have := k.obj f
      rw [ho] at this
      exact ⟨this.1, h1, h2⟩
    · rw [hget_hset_ne e]; exact k.obj f', k.side, k.fk, k.start⟩
omit hE in
theorem Kept1.refine {μ : Mu} {h : Hp} {F : List Key} {f : Key} {lo hi : Int} (k : Kept1 μ h F) : Kept1 μ (hset f (.iv lo hi) h) F := ⟨k.1, fun g hg => by
  by_cases e : f = g
  · subst e; rw [hget_hset]; exact ⟨rfl, (k.2 f hg).2⟩
  · rw [hget_hset_ne e]; exact k.2 g hg⟩
omit hE in
theorem pureI_ibin {q : Operand → Opd} {op : Op} {b : BinOp} {x y : Opd} (h : pureI q E op = .ibin b x y) : ∃ t xo yo yt, op = .binOp b t xo yo yt ∧ x = q xo ∧ y = q yo := by
  cases op with
  | binOp b' t xo yo yt =>
    have h : binI q E b' t xo yo = .ibin b x y := h
    unfold binI at h
    split at h
    · cases hb : isIntOrStr E t with
      | true => rw [hb] at h; cases h; exact ⟨_, _, _, _, rfl, rfl, rfl⟩
      | false => rw [hb] at h; cases h
    · cases hb : isIntOrStr E t with
      | true => rw [hb] at h; cases h; exact ⟨_, _, _, _, rfl, rfl, rfl⟩
      | false => rw [hb] at h; cases h
    · cases h; exact ⟨_, _, _, _, rfl, rfl, rfl⟩
  | _ =>
    exfalso
    simp only [pureI, convP, sliceP, lookupP, assertP, buildP, callP, lenP, cond_eq_ite] at h
    repeat' (first | (cases h; done) | split at h)
omit hE in
theorem allocI_mkS {q : Operand → Opd} {op : Op} {sz : Nat} {z : List AV} {l c : Opd} (h : allocI q E op = .mkSlice sz z l c) : ∃ t xo yo el zv, op = .makeSlice t xo yo ∧ l = q xo ∧ c = q yo ∧ E.und t = some (.slice el) ∧ E.size el = some sz ∧ zeroA E el = some zv ∧ z = zv.cells ∧
    Nat.beq zv.cells.length sz = true ∧ Nat.ble (bytesO E el) 1000000 = true := by
  cases op with
  | makeSlice t xo yo =>
    simp only [allocI] at h
    split at h
    · rename_i el hu
      split at h
      · rename_i n zv hn hz
        cases hb : Nat.beq zv.cells.length n && Nat.ble (bytesO E el) 1000000 with
        | false => rw [hb] at h; cases h
        | true =>
          rw [hb] at h
          simp only [cond_true, AI.mkSlice.injEq] at h
          obtain ⟨rfl, rfl, rfl, rfl⟩ := h
          simp only [Bool.and_eq_true] at hb
          exact ⟨t, xo, yo, el, zv, rfl, rfl, rfl, hu, hn, hz, rfl, hb.1, hb.2⟩
      · cases h
    · cases h
  | _ => exfalso; simp only [allocI, cond_eq_ite] at h; repeat' (first | (cases h; done) | split at h)
include hE in
theorem u_goodB {q : Operand → Opd} (hq : ∀ x, VR μ (getO (q x) L) (fr.eval x)) (a : At E P C ih l rest fn ds dd rnd cs d L h nx μ fr frs F Fs w arr i is k o)
    (hw : Region.wanted o (yielded arr fr.tmps) = true)
    (hct : ∀ c, insU q E d o = .ct d c → Good E P C (c.run E d l ih (.mk rest (.mk fn ds .run dd rnd) cs) L h nx) (lone fr (frs ++ C.cs0) w)) :
    Good E P C ((brk (insU q E d o)).run E l ih (.mk rest (.mk fn ds .run dd rnd) cs) L h nx) (lone fr (frs ++ C.cs0) w) := by
  have base := u_good hE hq a hw hct
  cases hi : insU q E d o with
  | pu d' p =>
    rw [hi] at base
    cases p with
    | ibin b x' y' =>
      show Good E P C ((bif isCmp b then Ins.pb d' b x' y' else Ins.pu d' (.ibin b x' y')).run E l ih (.mk rest (.mk fn ds .run dd rnd) cs) L h nx) _
      cases hc : isCmp b with
      | false => exact base
      | true =>
        simp only [cond_true]
        have hk : kindOf E o.op = 0 ∧ d' = d ∧ PI.ibin b x' y' = pureI q E o.op := by
          unfold insU at hi
          split at hi <;> first | (cases hi; done) | skip
          rename_i hk
          simp only [Ins.pu.injEq] at hi
          exact ⟨hk, hi.1.symm, hi.2.symm⟩
        obtain ⟨hk, rfl, hp⟩ := hk
        obtain ⟨t, xo, yo, yt, hop, rfl, rfl⟩ := pureI_ibin hp.symm
        obtain ⟨dst, op, ty, pos, af, gd⟩ := o
        simp only at hop
        subst hop
        show Good E P C (opt (xIbinH b (q xo) (q yo) h L) .fail fun v => asBool v (ubV v d' l ih (.mk rest (.mk fn ds .run dd rnd) cs) L h nx) fun _ => ih (.mk rest (.mk fn ds .run dd rnd) cs) (put d' v L) h nx) _
        cases hev : xIbinH b (q xo) (q yo) h L with
        | none => trivial
        | some x =>
          simp only [opt_some]
          obtain ⟨v, hr, hv⟩ := p_ibinH (P := P) (d := dst) (ty := ty) (pos := pos) (af := af) (gd := gd) (t := t) (yt := yt) a.hr hq hev
          have hs := exec_step (cs := frs ++ C.cs0) a.mode a.todo a.op hw (fun c hh => by cases hh) hr rfl
          have cont : Good E P C (ih (.mk rest (.mk fn ds .run dd rnd) cs) (put d' x L) h nx) (lone fr (frs ++ C.cs0) w) :=
            Good.of_steps hs (a.go μ x v h nx w ds fr cs frs (Mu.le_refl _) hv a.hr a.gr a.ext a.fi rfl rfl a.st a.kept)
          have sim : ∀ (b' : Bool) (h' : Hp), v = .bool b' → HR C.W.heap.size μ h' w → Kept1 μ h' (F ++ Fs) → ∃ m', Steps P (lone fr (frs ++ C.cs0) w) m' ∧ Sim E P C (.mk (put d' (.bool b') L) (.mid l :: rest) (.mk fn ds .run dd rnd) cs h' nx) m' := by
            intro b' h' e h1 h2
            exact ⟨_, hs, .mk h1 a.gr a.ext (.mk (a.fi.finish _ a.todo a.op) (a.mid μ (.bool b') v (Mu.le_refl _) (by simp only [VR]; exact e))) a.st h2⟩
          cases x with
          | ub =>
            simp only [VR] at hv
            obtain ⟨b1, rfl⟩ := hv
            show Good E P C (.br [.mk (put d' (.bool false) L) (.mid l :: rest) (.mk fn ds .run dd rnd) cs h nx, .mk (put d' (.bool true) L) (.mid l :: rest) (.mk fn ds .run dd rnd) cs h nx]) _
            cases b1 with
            | false => exact ⟨_, List.mem_cons_self .., sim false h rfl a.hr a.kept⟩
            | true => exact ⟨_, List.mem_cons_of_mem _ (List.mem_cons_self ..), sim true h rfl a.hr a.kept⟩
          | le f t neg =>
            simp only [VR] at hv
            show Good E P C (asIv (hget f h) .fail fun lo hi => .br [.mk (put d' (.bool neg) L) (.mid l :: rest) (.mk fn ds .run dd rnd) cs (hset f (.iv (iadd t 1) hi) h) nx, .mk (put d' (.bool (bnot neg)) L) (.mid l :: rest) (.mk fn ds .run dd rnd) cs (hset f (.iv lo t) h) nx]) _
            cases ho : hget f h <;> first | trivial | skip
            rename_i lo hi
            obtain ⟨g1, g2⟩ := a.hr.ivOf ho
            by_cases hle : Val.n f ≤ t
            · exact ⟨_, List.mem_cons_of_mem _ (List.mem_cons_self ..), sim _ _ (by rw [hv, decide_eq_true hle, bnot_eq]; cases neg <;> rfl) (a.hr.refine ho g1 hle) a.kept.refine⟩
            · exact ⟨_, List.mem_cons_self .., sim _ _ (by rw [hv, decide_eq_false hle]; cases neg <;> rfl) (a.hr.refine ho (by rw [iadd_eq]; omega) g2) a.kept.refine⟩
          | eqv f t neg =>
            simp only [VR] at hv
            show Good E P C (asIv (hget f h) .fail fun lo hi => .br (.mk (put d' (.bool (bnot neg)) L) (.mid l :: rest) (.mk fn ds .run dd rnd) cs (hset f (.iv t t) h) nx ::
              (cnd (ilt lo t) [.mk (put d' (.bool neg) L) (.mid l :: rest) (.mk fn ds .run dd rnd) cs (hset f (.iv lo (isub t 1)) h) nx] [] ++ cnd (ilt t hi) [.mk (put d' (.bool neg) L) (.mid l :: rest) (.mk fn ds .run dd rnd) cs (hset f (.iv (iadd t 1) hi) h) nx] []))) _
            cases ho : hget f h <;> first | trivial | skip
            rename_i lo hi
            obtain ⟨g1, g2⟩ := a.hr.ivOf ho
            by_cases he : Val.n f = t
            · exact ⟨_, List.mem_cons_self .., sim _ _ (by rw [hv, decide_eq_true he, bnot_eq]; cases neg <;> rfl) (a.hr.refine ho (by omega) (by omega)) a.kept.refine⟩
            · have hv' : v = .bool neg := by rw [hv, decide_eq_false he]; cases neg <;> rfl
              by_cases hlt : Val.n f < t
              · refine ⟨_, List.mem_cons_of_mem _ (List.mem_append_left _ ?_), sim neg (hset f (.iv lo (isub t 1)) h) hv' (a.hr.refine ho g1 (by rw [isub_eq]; omega)) a.kept.refine⟩
                have : ilt lo t = true := by rw [ilt_eq]; exact decide_eq_true (by omega)
                rw [this]; exact List.mem_cons_self ..
              · refine ⟨_, List.mem_cons_of_mem _ (List.mem_append_right _ ?_), sim neg (hset f (.iv (iadd t 1) hi) h) hv' (a.hr.refine ho (by rw [iadd_eq]; omega) g2) a.kept.refine⟩
                have : ilt t hi = true := by rw [ilt_eq]; exact decide_eq_true (by omega)
                rw [this]; exact List.mem_cons_self ..
          | _ => exact cont
    | _ => exact base
  | al d' p =>
    rw [hi] at base
    cases p with
    | mkSlice sz z l' c' =>
      have hk : kindOf E o.op = 1 ∧ d' = d ∧ AI.mkSlice sz z l' c' = allocI q E o.op := by
        unfold insU at hi
        split at hi <;> first | (cases hi; done) | skip
        rename_i hk
        simp only [Ins.al.injEq] at hi
        exact ⟨hk, hi.1.symm, hi.2.symm⟩
      obtain ⟨hk, rfl, hp⟩ := hk
      obtain ⟨t, xo, yo, el, zv, hop, rfl, rfl, hu, hn, hz, rfl, z1, z2⟩ := allocI_mkS hp.symm
      obtain ⟨dst, op, ty, pos, af, gd⟩ := o
      simp only at hop
      subst hop
      have base : Good E P C (opt ((AI.mkSlice sz zv.cells (q xo) (q yo)).ev h nx L) .fail fun r => Prod.rec (motive := fun _ => Sp) (fun o v => cnd (hget nx h).isNone (ih (.mk rest (.mk fn ds .run dd rnd) cs) (put d' v L) (hset nx o h) nx.next) .fail) r) (lone fr (frs ++ C.cs0) w) := base
      show Good E P C (opt ((AI.mkSliceN sz zv.cells (q xo) (q yo)).ev h nx L) .fail fun r => Prod.rec (motive := fun _ => Sp) (fun o v => cnd (hget nx h).isNone (ih (.mk rest (.mk fn ds .run dd rnd) cs) (put d' v L) (hset nx o h) nx.next) .fail) r) _
      have e : (AI.mkSliceN sz zv.cells (q xo) (q yo)).ev h nx L = opt ((AI.mkSlice sz zv.cells (q xo) (q yo)).ev h nx L) (mkNam nx sz zv.cells (getO (q xo) L) (getO (q yo) L)) some := rfl
      rw [e]
      cases h0 : (AI.mkSlice sz zv.cells (q xo) (q yo)).ev h nx L with
      | some r => rw [h0] at base; exact base
      | none =>
        simp only [opt_none]
        cases hev : mkNam nx sz zv.cells (getO (q xo) L) (getO (q yo) L) with
        | none => trivial
        | some r =>
          obtain ⟨ob, x⟩ := r
          simp only [opt_some]
          cases hnx : (hget nx h).isNone with
          | false => trivial
          | true =>
            simp only [cnd_true]
            obtain ⟨v, w', ν, hr, hv, hle, hh, he, hkp⟩ := a_mkNam (d := dst) (ty := ty) (pos := pos) (af := af) (gd := gd) hE a.hr hnx a.size hq hu hn hz z1 z2 hev
            refine Good.of_steps (exec_step a.mode a.todo a.op hw (fun c hh => by cases hh) hr rfl _) ?_
            exact a.go ν x v _ _ w' ds fr cs frs hle hv hh (a.gr.mono hle) (a.ext.trans he) (a.fi.mono hle) rfl rfl (a.st.mono hle) (a.kept.kp hkp)
    | _ => exact base
  | _ => rw [hi] at base; exact base
theorem g_goodG {i0 : Ins} {q : Operand → Opd} (hq : ∀ x, VR μ (getO (q x) L) (fr.eval x)) (a : At E P C ih l rest fn ds dd rnd cs d L h nx μ fr frs F Fs w arr i is k o)
    (hu : Region.wanted o (yielded arr fr.tmps) = true → Good E P C (i0.run E l ih (.mk rest (.mk fn ds .run dd rnd) cs) L h nx) (lone fr (frs ++ C.cs0) w)) :
    Good E P C ((insG q arr d o i0).run E l ih (.mk rest (.mk fn ds .run dd rnd) cs) L h nx) (lone fr (frs ++ C.cs0) w) := by
  have skip : Region.wanted o (yielded arr fr.tmps) = false → Good E P C (ih (.mk rest (.mk fn ds .run dd rnd) cs) (put d undefA L) h nx) (lone fr (frs ++ C.cs0) w) := fun hw =>
    Good.of_steps (.one (s_opSkip a.mode a.todo a.op hw)) (a.go μ undefA undef h nx w ds fr cs frs (Mu.le_refl _) vr_undef a.hr a.gr a.ext a.fi rfl rfl a.st a.kept)
  unfold insG
  cases hg : o.guard with
  | none => simp only; exact hu (by simp [Region.wanted, hg])
  | some p =>
    obtain ⟨j, want⟩ := p
    simp only
    cases hj : arr[j]? with
    | none => trivial
    | some p =>
      simp only
      cases hd : p.dst with
      | none => trivial
      | some t =>
        simp only
        have hqt := hq (.tmp t)
        have hev : fr.eval (.tmp t) = fr.tmps.getD t undef := rfl
        rw [hev] at hqt
        show Good E P C (asBool (getO (q (.tmp t)) L) (asTuple (getO (q (.tmp t)) L) .fail fun _ => ih _ (put d undefA L) h nx)
          fun b => cnd (cnd b want (bnot want)) (i0.run E l ih _ L h nx) (ih _ (put d undefA L) h nx)) _
        cases hv : getO (q (.tmp t)) L with
        | bool b =>
          rw [hv] at hqt
          simp only [VR] at hqt
          have hy : yielded arr fr.tmps j = some b := by
            have hin : fr.tmps[t]? = some (.bool b) := by
              rw [Array.getD_eq_getD_getElem?] at hqt
              cases hh : fr.tmps[t]? with
              | none => rw [hh] at hqt; cases hqt
              | some u => rw [hh] at hqt; simp only [Option.getD_some] at hqt; rw [hqt]
            simp [yielded, hj, hd, hin]
          have hw : Region.wanted o (yielded arr fr.tmps) = (b == want) := by
            simp only [Region.wanted, hg, hy]
            cases b <;> cases want <;> rfl
          show Good E P C (cnd (cnd b want (bnot want)) _ _) _
          have e1 : cnd b want (bnot want) = (b == want) := by cases b <;> cases want <;> rfl
          rw [e1]
          cases hbw : b == want with
          | true => exact hu (hw.trans hbw)
          | false => exact skip (hw.trans hbw)
        | tuple vs =>
          rw [hv] at hqt
          simp only [VR] at hqt
          obtain ⟨us, hus, _⟩ := hqt
          have hy : yielded arr fr.tmps j = none := by
            simp only [yielded, hj, Option.bind_some, hd]
            rw [Array.getD_eq_getD_getElem?] at hus
            cases hh : fr.tmps[t]? with
            | none => rfl
            | some u => rw [hh] at hus; simp only [Option.getD_some] at hus; rw [hus]
          have hw : Region.wanted o (yielded arr fr.tmps) = false := by simp [Region.wanted, hg, hy]
          exact skip hw
        | _ => trivial
theorem g_good {q : Operand → Opd} (hq : ∀ x, VR μ (getO (q x) L) (fr.eval x)) (a : At E P C ih l rest fn ds dd rnd cs d L h nx μ fr frs F Fs w arr i is k o)
    (hu : Region.wanted o (yielded arr fr.tmps) = true → Good E P C ((insU q E d o).run E l ih (.mk rest (.mk fn ds .run dd rnd) cs) L h nx) (lone fr (frs ++ C.cs0) w)) :
    Good E P C ((insOf q E arr d o).run E l ih (.mk rest (.mk fn ds .run dd rnd) cs) L h nx) (lone fr (frs ++ C.cs0) w) := g_goodG hq a hu
end
end
end Go.Ev

namespace Go.Ev
set_option linter.unusedVariables false
set_option linter.unusedSectionVars false
set_option linter.unusedSimpArgs false
noncomputable section
variable [Val] [Fk]
/-! ## frames that begin -/
theorem hd_get (l : List AV) : hd l = l[0]?.getD .top := by cases l <;> rfl
theorem tl_drop (l : List AV) : tl l = l.drop 1 := by cases l <;> rfl
theorem leaf8_sel (l : List AV) (c : D) : N.sel c (leaf8 l) = (l[c.toNat]?).getD .top := by
  cases c <;> simp only [leaf8, N.sel, hd_get, tl_drop, List.drop_drop, List.getElem?_drop, D.toNat] <;> rfl
theorem tl8_drop (l : List AV) : tl8 l = l.drop 8 := by simp only [tl8, tl_drop, List.drop_drop]
theorem toNat_ofNat {n : Nat} (h : n < 8) : (D.ofNat n).toNat = n := by
  match n, h with
  | 0, _ => rfl
  | 1, _ => rfl
  | 2, _ => rfl
  | 3, _ => rfl
  | 4, _ => rfl
  | 5, _ => rfl
  | 6, _ => rfl
  | 7, _ => rfl
theorem fillT_get (l : List AV) {t : Nat} (h : t < 512) : getT t (fillT l) = .top ∨ getT t (fillT l) = (l[t]?).getD .top := by
  show tget (D.ofNat (t / 64 % 8)) (D.ofNat (t / 8 % 8)) (D.ofNat (t % 8)) (fillT l) = .top ∨ tget (D.ofNat (t / 64 % 8)) (D.ofNat (t / 8 % 8)) (D.ofNat (t % 8)) (fillT l) = _
  have h2 : ∀ b c : D, N.sel c (N.sel b tl2) = .top := fun b c => by simp only [tl2, tl1, N.sel_all]
  have h1 : ∀ c : D, N.sel c tl1 = .top := fun c => by simp only [tl1, N.sel_all]
  rw [tget_eq]
  by_cases ht : t < 24
  · have e0 : t / 64 % 8 = 0 := by omega
    rw [e0]
    right
    have hc : t % 8 < 8 := Nat.mod_lt _ (by omega)
    have hb : t / 8 % 8 = 0 ∨ t / 8 % 8 = 1 ∨ t / 8 % 8 = 2 := by omega
    rcases hb with hb | hb | hb
    · rw [hb]
      show N.sel _ (leaf8 l) = _
      rw [leaf8_sel, toNat_ofNat hc]; congr 2; omega
    · rw [hb]
      show N.sel _ (leaf8 (tl8 l)) = _
      rw [leaf8_sel, toNat_ofNat hc, tl8_drop, List.getElem?_drop]; congr 2; omega
    · rw [hb]
      show N.sel _ (leaf8 (tl8 (tl8 l))) = _
      rw [leaf8_sel, toNat_ofNat hc, tl8_drop, tl8_drop, List.drop_drop, List.getElem?_drop]; congr 2; omega
  · left
    by_cases ha : t / 64 % 8 = 0
    · rw [ha]
      have hb : t / 8 % 8 = 3 ∨ t / 8 % 8 = 4 ∨ t / 8 % 8 = 5 ∨ t / 8 % 8 = 6 ∨ t / 8 % 8 = 7 := by omega
      rcases hb with hb | hb | hb | hb | hb <;> (rw [hb]; exact h1 _)
    · have ha' : t / 64 % 8 = 1 ∨ t / 64 % 8 = 2 ∨ t / 64 % 8 = 3 ∨ t / 64 % 8 = 4 ∨ t / 64 % 8 = 5 ∨ t / 64 % 8 = 6 ∨ t / 64 % 8 = 7 := by omega
      rcases ha' with ha' | ha' | ha' | ha' | ha' | ha' | ha' <;> (rw [ha']; exact h2 _ _)
section
variable {E : Env} {P : Program} (hE : EnvOk E P) {C : Call0}
include hE in
theorem enter_good {f : Nat} {vs : List AV} {args : Array Value} {dfd : Bool} {L' : Lo} {todo' : List Ci} {fi' : FI} {cs : List Fr} {h : Hp} {nx : Key} {μ : Mu} {fr : Frame} {frs : List Frame} {F Fs : List Key} {w : World}
    (hv : VRs μ vs args.toList) (hr : HR C.W.heap.size μ h w) (hg : GR E μ) (he : Ext C.W.heap.size C.W w) (hf : FrR E μ L' todo' fi' fr F) (hs : StR E μ cs frs Fs) (hk : Kept1 μ h (F ++ Fs)) :
    Good E P C (enter E f vs dfd (.mk L' todo' fi' :: cs) h nx) (lone (Frame.enter P f args (if dfd then .deferred else .normal)) (fr :: (frs ++ C.cs0)) w) := by
  unfold enter
  cases hc : compBody E f with
  | none => trivial
  | some b =>
    simp only [opt_some]
    cases hl : Nat.ble vs.length 24 with
    | false => trivial
    | true =>
      simp only [cnd_true]
      unfold compBody at hc
      split at hc
      · rename_i fn hfn
        split at hc
        · rename_i c hbody
          simp only [Option.some.injEq] at hc
          subst hc
          have hP := hE.fs _ _ hfn
          have hn : nOf E f = fn.ntmps := by simp only [nOf, hfn]
          have htm : (Frame.enter P f args (if dfd then .deferred else .normal)).tmps = args ++ Array.replicate (fn.ntmps - args.size) undef := by simp [Frame.enter, hP]
          have htd : (Frame.enter P f args (if dfd then .deferred else .normal)).todo = [.code c] := by simp [Frame.enter, hP, hbody]
          refine ⟨_, .refl _ _, ?_⟩
          have hst : StR E μ (.mk L' todo' fi' :: cs) (fr :: frs) (F ++ Fs) := .cons hf hs
          refine Sim.mk (F := []) (Fs := F ++ Fs) (fr := Frame.enter P f args (if dfd then .deferred else .normal)) (frs := fr :: frs) hr hg he ?_ hst (by simpa using hk)
          refine .mk (.mk rfl (by simp [Frame.enter, DfsR]) rfl (by cases dfd <;> rfl) rfl ?_ ⟨fn, hfn⟩) ?_
          · rw [htm, hn]; simp; omega
          · rw [htm, htd]
            refine .plain (cl := []) ⟨fun t ht _ => ?_, (fun e he => by cases he), fun u d x hm => by cases hm⟩ ?_
            · rw [tm_mk]
              rcases fillT_get vs (inNd_lt ht) with h0 | h0
              · rw [h0]; simp only [VR]
              · rw [h0]
                cases hvt : vs[t]? with
                | none => simp only [Option.getD_none, VR]
                | some a =>
                  simp only [Option.getD_some]
                  obtain ⟨v, e1, e2⟩ := hv.get hvt
                  rw [Array.getElem?_toList] at e1
                  have hlt : t < args.size := (Array.getElem?_eq_some_iff.1 e1).1
                  rw [Array.getD_eq_getD_getElem?, Array.getElem?_append_left hlt, e1]
                  exact e2
            · have := TodoR.code (E := E) (x := cxOf E f) (μ := μ) (cl := []) (c := c) (.nil (aft (cxOf E f).nd [] c))
              rw [List.append_nil] at this
              exact this
        · cases hc
      · cases hc
include hE in
theorem callFunc_run {f : Nat} {b : List Ci} (hc : compBody E f = some b) (args : Array Value) (w : World) : (callFunc f args).run P w = .ok (.enter f args) w := by
  unfold compBody at hc
  split at hc
  · rename_i fn hfn
    split at hc
    · rename_i c hbody
      have hP := hE.fs _ _ hfn
      have hnm := hE.names _ _ hfn (by rw [hbody]; rfl)
      simp only [callFunc, Sem.run_bind, run_program, Result.andThen_ok, hP, hnm, Bool.false_eq_true, if_false, hbody, Option.isNone_some, Sem.run_pure]
    · cases hc
  · cases hc
theorem enter_none {f : Nat} {vs : List AV} {dfd : Bool} {cs : List Fr} {h : Hp} {nx : Key} (hc : compBody E f = none) : enter E f vs dfd cs h nx = .fail := by
  unfold enter; rw [hc]; rfl
theorem VRs.headTail {μ : Mu} {x : AV} {rest : List AV} {args : Array Value} (h : VRs μ (x :: rest) args.toList) : ∃ v vs, args = (v :: vs).toArray ∧ VR μ x v ∧ VRs μ rest vs := by
  obtain ⟨v, r, e, h1, h2⟩ := h.cons_inv
  exact ⟨v, r, by apply Array.toList_inj.1; rw [e], h1, h2⟩
include hE in
theorem loadVar1_sound {μ : Mu} {h : Hp} {w : World} {B : Nat} (hr : HR B μ h w) {el : TypeId} {n : Nat} (hz : E.szA el = some (n, false)) {p : Key} {g o b s m : Nat} (hm : μ p g = some (b, s, m)) (hs : s ≤ o) {a : AV}
    (hg : getCell h p g o = some a) : ∃ v, (loadVar el ⟨b, o - s, none⟩).run P w = .ok v w ∧ VR μ a v := by
  obtain ⟨v, hv, hvr⟩ := getCell_sound hr hm hs hg
  obtain ⟨ds, hu, hsz, hag⟩ := szA_some hz
  refine ⟨v, ?_, hvr⟩
  simp only [loadVar, Sem.run_bind, Result.andThen_ok, hE.runAgg hu, hag, Bool.false_eq_true, if_false, run_load, hv]
include hE in
theorem loadVarN_sound {μ : Mu} {h : Hp} {w : World} {B : Nat} (hr : HR B μ h w) {el : TypeId} {n : Nat} (hz : E.szA el = some (n, true)) {p : Key} {g o b s m : Nat} (hm : μ p g = some (b, s, m)) (hs : s ≤ o) {l : List AV}
    (hg : getCells h p g o n = some l) : ∃ v, (loadVar el ⟨b, o - s, none⟩).run P w = .ok v w ∧ VR μ (.agg l) v := by
  obtain ⟨hlen, vs, hvs, hcell⟩ := getCells_sound hr hm hs hg
  obtain ⟨ds, hu, hsz, hag⟩ := szA_some hz
  refine ⟨.agg vs.toArray, ?_, by simp only [VR]; exact ⟨_, rfl, by simpa using hvs⟩⟩
  have hlen' : vs.length = n := by rw [← hvs.length, hlen]
  have hrun := run_loadCells_list (P := P) w ⟨b, o - s, none⟩ vs (fun j v hj => by
    have := hcell j v hj
    unfold Addr.add
    split
    · rename_i h0; subst h0; simpa using this
    · exact this)
  rw [hlen'] at hrun
  simp only [loadVar, Sem.run_bind, Sem.run_pure, Result.andThen_ok, hE.runAgg hu, hag, if_true, hE.runSize hsz, hrun]
include hE in
theorem callMethod_good {μ : Mu} {h : Hp} {x : AV} {v : Value} {name : String} {args : List AV} {vs : List Value} {k : Nat → List AV → Sp} {m : Machine} {w : World} {s : Sem Next} (hr : HR C.W.heap.size μ h w) (hx : VR μ x v) (ha : VRs μ args vs)
    (hs : s.run P w = (Go.callMethod v name vs.toArray).run P w)
    (hk : ∀ f avs (args' : Array Value), VRs μ avs args'.toList → s.run P w = (callFunc f args').run P w → Good E P C (k f avs) m) : Good E P C (Go.Ev.callMethod E h x name args k) m := by
  unfold Go.Ev.callMethod
  split
  · rename_i t a
    simp only [VR] at hx
    obtain ⟨y, rfl, hy⟩ := hx
    split
    · rename_i i hi
      have hinfo := hE.ts _ _ hi
      split
      · rename_i me hme
        cases hp : me.path.isEmpty with
        | false => trivial
        | true =>
          have hpath : me.path.toList = [] := by
            have : me.path = #[] := Array.isEmpty_iff.1 hp
            rw [this]
          have hfind : i.methods.find? (fun m => m.name == name) = some me := by rw [← Array.find?_toList]; exact hme
          simp only [cond_true]
          have fuel : ∃ n, P.types.size + Made.depth = n + 1 := ⟨P.types.size + 99, rfl⟩
          have run1 : ∀ {f : Nat} {b : Bool} {d : TypeDesc}, me.func = some (f, b) → E.und t = some d → ((∃ el, d = .pointer el) ∧ b = true ∨ (∀ el, d ≠ .pointer el) ∧ b = false) →
              (Go.callMethod (.iface t y) name vs.toArray).run P w = (callFunc f (#[y] ++ vs.toArray)).run P w := by
            intro f b d h1 h2 h3
            obtain ⟨n, hn⟩ := fuel
            unfold Go.callMethod
            simp only [Sem.run_bind, run_program, Result.andThen_ok, hn]
            have hmeth : (Go.method (n + 1) t y name).run P w = .ok (f, y) w := by
              unfold Go.method
              simp only [Sem.run_bind, typeInfo, run_program, Result.andThen_ok, hinfo, Sem.run_pure, hfind, hpath, Go.follow, h1]
              unfold Go.receiverAt
              simp only [Sem.run_bind, hE.runUnd h2, Result.andThen_ok]
              rcases h3 with ⟨⟨el, rfl⟩, rfl⟩ | ⟨h3, rfl⟩
              · simp [Go.Place.get]
              · cases d <;> first | exact absurd rfl (h3 _) | simp [Go.Place.get]
            rw [hmeth]
            simp only [Result.andThen_ok]
          have run2 : ∀ {f : Nat} {el : TypeId} {b : Addr} {z : Value}, me.func = some (f, false) → E.und t = some (.pointer el) → y = .pointer (some b) → (loadVar el b).run P w = .ok z w →
              (Go.callMethod (.iface t y) name vs.toArray).run P w = (callFunc f (#[z] ++ vs.toArray)).run P w := by
            intro f el b z h1 h2 h3 h4
            obtain ⟨n, hn⟩ := fuel
            unfold Go.callMethod
            simp only [Sem.run_bind, run_program, Result.andThen_ok, hn]
            have hmeth : (Go.method (n + 1) t y name).run P w = .ok (f, z) w := by
              unfold Go.method
              simp only [Sem.run_bind, typeInfo, run_program, Result.andThen_ok, hinfo, Sem.run_pure, hfind, hpath, Go.follow, h1]
              unfold Go.receiverAt
              simp only [Sem.run_bind, hE.runUnd h2, Result.andThen_ok]
              subst h3
              have hw : ∀ nm : String, Builtin.ssaWrapNilChk_ #[t] t #[.pointer (some b), strVal "", strVal nm] = pure (.pointer (some b)) := fun _ => rfl
              have ha' : asAddr (.pointer (some b)) = pure b := rfl
              simp only [Go.Place.get, Sem.run_bind, Sem.run_pure, Result.andThen_ok, hp, if_true, hw, ha', h4]
            rw [hmeth]
            simp only [Result.andThen_ok]
          split
          · rename_i f el h1 h2
            refine hk f _ (#[y] ++ vs.toArray) ?_ (hs.trans (run1 h1 h2 (.inl ⟨⟨el, rfl⟩, rfl⟩)))
            simp only [List.append_toArray, List.cons_append, List.nil_append]; exact .cons hy ha
          · rename_i f el h1 h2
            cases a with
            | ptr p g o =>
              simp only [VR] at hy
              obtain ⟨b, s', m', hm, hso, rfl⟩ := hy
              show Good E P C (match E.szA el with
                | some (_, false) => opt (getCell h p g o) .fail fun a => k f (a :: args)
                | some (n, true) => opt (getCells h p g o n) .fail fun l => k f (.agg l :: args)
                | none => .fail) m
              split
              · rename_i n' hz
                cases hc : getCell h p g o with
                | none => trivial
                | some c =>
                  obtain ⟨z, hz1, hz2⟩ := loadVar1_sound hE hr hz hm hso hc
                  refine hk f _ (#[z] ++ vs.toArray) ?_ (hs.trans (run2 h1 h2 rfl hz1))
                  simp only [List.append_toArray, List.cons_append, List.nil_append]; exact .cons hz2 ha
              · rename_i n' hz
                cases hc : getCells h p g o n' with
                | none => trivial
                | some l =>
                  obtain ⟨z, hz1, hz2⟩ := loadVarN_sound hE hr hz hm hso hc
                  refine hk f _ (#[z] ++ vs.toArray) ?_ (hs.trans (run2 h1 h2 rfl hz1))
                  simp only [List.append_toArray, List.cons_append, List.nil_append]; exact .cons hz2 ha
              · trivial
            | _ => trivial
          · rename_i f ds h3 h1 h2
            refine hk f _ (#[y] ++ vs.toArray) ?_ (hs.trans (run1 h1 h2 (.inr ⟨fun el hh => h3 el hh, rfl⟩)))
            simp only [List.append_toArray, List.cons_append, List.nil_append]; exact .cons hy ha
          · trivial
      · trivial
    · trivial
  · trivial
theorem putPs_sound {nd : Nat} {μ : Mu} : ∀ (ps : List Nat) (avs : List AV) (vs : List Value) (tm tm' : Tm) (tmps : Array Value), putPs tm ps avs = some tm' → VRs μ avs vs → NeedR nd NoX μ tm tmps → (∀ t ∈ ps, t < tmps.size ∧ t < 512) →
    ps.length = vs.length ∧ NeedR nd NoX μ tm' ((ps.zip vs).foldl (fun (tmps : Array Value) (p : Nat × Value) => tmps.setIfInBounds p.1 p.2) tmps) ∧ ((ps.zip vs).foldl (fun (tmps : Array Value) (p : Nat × Value) => tmps.setIfInBounds p.1 p.2) tmps).size = tmps.size
  | [], avs, vs, tm, tm', tmps, h, hv, hn, hp => by
    cases avs with
    | nil => cases h; rw [hv.nil_inv]; exact ⟨rfl, hn, rfl⟩
    | cons a avs => cases h
  | t :: ps, avs, vs, tm, tm', tmps, h, hv, hn, hp => by
    cases avs with
    | nil => cases h
    | cons a avs =>
      obtain ⟨v, vs, rfl, h1, h2⟩ := hv.cons_inv
      obtain ⟨p1, p2⟩ := hp t (by simp)
      have hh : NeedR nd NoX μ (setT t a tm) (tmps.setIfInBounds t v) := by
        intro u hu _
        rw [getD_set p1]
        by_cases htu : t = u
        · subst htu; rw [if_pos rfl, getT_setT]; exact h1
        · rw [if_neg htu, getT_setT_ne p2 (inNd_lt hu) htu]; exact hn u hu (fun h => h)
      obtain ⟨e1, e2, e3⟩ := putPs_sound ps avs vs (setT t a tm) tm' (tmps.setIfInBounds t v) h h2 hh (fun t' ht' => by simpa using hp t' (by simp [ht']))
      refine ⟨by simp [e1], e2, ?_⟩
      simp only [List.zip_cons_cons, List.foldl_cons]
      rw [e3]; simp
include hE in
theorem invokeFn_good {μ : Mu} {h : Hp} {w : World} (hr : HR C.W.heap.size μ h w) {fn : AFn} {F : Fn} {cap args : List AV} {caps argv : Array Value} {k : Nat → List AV → Sp} {r : Key → Nat → Tm → Code → Code → Sp} {m : Machine} {s : Sem Next}
    (hf : FnR μ fn F) (hc : VRs μ cap caps.toList) (ha : VRs μ args argv.toList) (hs : s.run P w = (invoke (.fn F caps) argv).run P w)
    (hk : ∀ f avs (args' : Array Value), VRs μ avs args'.toList → s.run P w = (callFunc f args').run P w → Good E P C (k f avs) m)
    (hrd : ∀ l b f tm tmps asg body, AtR μ l b → s.run P w = .ok (.round b f tmps asg body) w → NeedR (cxOf E f).nd NoX μ tm tmps → nOf E f ≤ tmps.size → (∃ fu, E.fs.get f = some fu) → Good E P C (r l f tm asg body) m) :
    Good E P C (invokeFn E h fn cap args k r) m := by
  unfold invokeFn
  split
  · rename_i f
    have hf : F = .func f := hf
    subst hf
    refine hk f _ (argv ++ caps) (by rw [Array.toList_append]; exact ha.append hc) ?_
    rw [hs]; rfl
  · rename_i name
    have hf : F = .method name := hf
    subst hf
    split
    · rename_i x rest
      obtain ⟨v, vs, rfl, h1, h2⟩ := ha.headTail
      refine callMethod_good hE (name := name) hr h1 h2 (s := s) ?_ hk
      rw [hs]
      simp only [invoke]
      have e1 : (v :: vs).toArray[0]? = some v := by simp
      have e2 : (v :: vs).toArray.extract 1 (v :: vs).toArray.size = vs.toArray := by simp
      simp only [e1, e2]
    · trivial
  · rename_i t path f pointer
    have hf : F = .via t path f pointer := hf
    subst hf
    split
    · rename_i x rest
      obtain ⟨v, vs, rfl, h1, h2⟩ := ha.headTail
      cases hp : path.isEmpty with
      | false => trivial
      | true =>
        have hpath : path.toList = [] := by
          have : path = #[] := Array.isEmpty_iff.1 hp
          rw [this]
        simp only [cond_true]
        have run1 : ∀ {d : TypeDesc}, E.und t = some d → ((∃ el, d = .pointer el) ∧ pointer = true ∨ (∀ el, d ≠ .pointer el) ∧ pointer = false) →
            (invoke (.fn (.via t path f pointer) caps) (v :: vs).toArray).run P w = (callFunc f (#[v] ++ vs.toArray)).run P w := by
          intro d h2 h3
          have e1 : (v :: vs).toArray[0]? = some v := by simp
          have e2 : (v :: vs).toArray.extract 1 (v :: vs).toArray.size = vs.toArray := by simp
          simp only [invoke, e1, e2]
          have hrv : (Go.receiverVia t v path pointer).run P w = .ok v w := by
            unfold Go.receiverVia
            simp only [hpath, Go.follow, Sem.run_bind, Sem.run_pure, Result.andThen_ok]
            unfold Go.receiverAt
            simp only [Sem.run_bind, hE.runUnd h2, Result.andThen_ok]
            rcases h3 with ⟨⟨el, rfl⟩, rfl⟩ | ⟨h3, rfl⟩
            · simp [Go.Place.get]
            · cases d <;> first | exact absurd rfl (h3 _) | simp [Go.Place.get]
          simp only [Sem.run_bind, hrv, Result.andThen_ok]
        have hva : VRs μ (x :: rest) (#[v] ++ vs.toArray).toList := by
          simp only [List.append_toArray, List.cons_append, List.nil_append]; exact .cons h1 h2
        split
        · rename_i el hu
          exact hk f _ _ hva (hs.trans (run1 hu (.inl ⟨⟨el, rfl⟩, rfl⟩)))
        · trivial
        · rename_i ds h3 hu
          exact hk f _ _ hva (hs.trans (run1 hu (.inr ⟨fun el hh => h3 el hh, rfl⟩)))
        · trivial
    · trivial
  · rename_i l
    obtain ⟨b, s0, n0, hm, hF⟩ := hf
    subst hF
    split
    · rename_i st pend f t ps asg body df x ho
      cases hx1 : Nat.beq x.nd (cxOf E f).nd with
      | false => trivial
      | true =>
        simp only [cnd_true]
        have hx1 := Nat.eq_of_beq_eq_true hx1
        cases hx2 : Nat.beq x.n (nOf E f) with
        | false => trivial
        | true =>
          simp only [cnd_true]
          have hx2 := Nat.eq_of_beq_eq_true hx2
          cases hfs : E.fs.get f with
          | none => trivial
          | some fu =>
            simp only [opt_some]
            cases hpp : putPs t ps args with
            | none => trivial
            | some t' =>
              simp only [opt_some]
              have hO := hr.obj l
              rw [ho] at hO
              obtain ⟨_, hO⟩ := hO
              obtain ⟨_, tmps, dfb, s', n', hheap, ⟨k1, k2, k3⟩, _⟩ := hO b s0 n0 hm
              obtain ⟨e1, e2, e3⟩ := putPs_sound ps args argv.toList t t' tmps hpp ha k1 (fun t ht => ⟨by have := (k3 t ht).1; omega, (k3 t ht).2⟩)
              have hfold : (ps.toArray.zip argv).foldl (fun (tmps : Array Value) (t, a) => tmps.setIfInBounds t a) tmps = (ps.zip argv.toList).foldl (fun (tmps : Array Value) (p : Nat × Value) => tmps.setIfInBounds p.1 p.2) tmps := by
                rw [← Array.foldl_toList, Array.toList_zip]
              refine hrd l b f t' ((ps.zip argv.toList).foldl (fun (tmps : Array Value) (p : Nat × Value) => tmps.setIfInBounds p.1 p.2) tmps) asg body ⟨s0, n0, hm⟩ ?_ (by rw [← hx1]; exact e2) (by rw [e3, ← hx2]; exact k2) ⟨fu, hfs⟩
              rw [hs]
              have hg : (Instr.getLoop b).run P w = .ok { state := st, pending := pend, fn := f, tmps := tmps, params := ps.toArray, assign := asg, body := body, defers := dfb } w := by
                simp only [Instr.getLoop, getObj, Sem.run_bind, Sem.run, hheap, Result.andThen_ok, Sem.run_pure]
              show (Instr.yield b argv).run P w = _
              simp only [Instr.yield, Sem.run_bind, hg, Result.andThen_ok]
              have hsz : argv.size = ps.toArray.size := by simpa using e1.symm
              simp only [hsz, ne_eq, not_true_eq_false, if_false, Sem.run_pure, hfold]
    · trivial
  · trivial
theorem round_good {l : Key} {b f : Nat} {tm : Tm} {tmps : Array Value} {asg body : Code} {L' : Lo} {todo' : List Ci} {fi' : FI} {cs : List Fr} {h : Hp} {nx : Key} {μ : Mu} {fr : Frame} {frs : List Frame} {F Fs : List Key} {w : World}
    (hl : AtR μ l b) (hn : NeedR (cxOf E f).nd NoX μ tm tmps) (hsz : nOf E f ≤ tmps.size) (hfu : ∃ fu, E.fs.get f = some fu) (hr : HR C.W.heap.size μ h w) (hg : GR E μ) (he : Ext C.W.heap.size C.W w) (hf : FrR E μ L' todo' fi' fr F) (hs : StR E μ cs frs Fs) (hk : Kept1 μ h (F ++ Fs)) :
    Good E P C (roundCfg E l f tm asg body (.mk L' todo' fi' :: cs) h nx) (lone (Frame.round b f tmps asg body .normal) (fr :: (frs ++ C.cs0)) w) := by
  refine ⟨_, .refl _ _, ?_⟩
  have hst : StR E μ (.mk L' todo' fi' :: cs) (fr :: frs) (F ++ Fs) := .cons hf hs
  refine Sim.mk (F := []) (Fs := F ++ Fs) (fr := Frame.round b f tmps asg body .normal) (frs := fr :: frs) hr hg he ?_ hst (by simpa using hk)
  refine .mk (.mk rfl (by simp [Frame.round, DfsR]) rfl rfl ⟨b, hl, rfl⟩ hsz hfu) ?_
  refine .plain (cl := []) ⟨fun t ht hx => hn t ht hx, (fun e he => by cases he), fun u d x hm => by cases hm⟩ ?_
  rw [ciAppend_eq]
  have h2 := TodoR.code (E := E) (x := cxOf E f) (μ := μ) (cl := []) (c := body) (.nil (aft (cxOf E f).nd [] body))
  rw [List.append_nil] at h2
  exact .code (.forget (.beginRound h2))
end
end
end Go.Ev
