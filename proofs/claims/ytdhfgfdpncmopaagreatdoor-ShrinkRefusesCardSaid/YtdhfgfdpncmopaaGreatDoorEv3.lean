/- THE EVALUATOR, part 3 of 12: EvPure EvBin EvPure2 EvPure3 EvPure4 EvPure5 EvEq EvEq2 -/
import Derived.Test.YtdhfgfdpncmopaaGreatDoorEv2
import Derived.Laws.Strings
import Derived.Laws.Slices
import Derived.Laws.StructEq
set_option linter.unusedVariables false
set_option linter.unusedSectionVars false
set_option linter.unusedSimpArgs false
namespace Go.Ev
set_option linter.unusedVariables false
set_option linter.unusedSectionVars false
variable [Val] [Fk]
theorem run_val {P : Program} {w w' : World} {s : Sem Value} {v : Value} (h : s.run P w = .ok v w') : (do pure (Next.value (← s)) : Sem Next).run P w = .ok (.value v) w' := by
  simp only [Sem.run_bind, h, Result.andThen_ok, Sem.run_pure]
section
variable {E : Env} {P : Program} (hE : EnvOk E P) {B : Nat} {μ : Mu} {h : Hp} {w : World} (hH : HR B μ h w)
  {L : Lo} {ρ : Operand → Value} {q : Operand → Opd} (hq : ∀ x, VR μ (getO (q x) L) (ρ x))
omit hE hH in
include hq in
theorem q_int {x : Operand} {k : IntKind} {n : Int} (e : getO (q x) L = .int k n) : ρ x = .int k n := by
  have := hq x; rw [e] at this; simpa only [VR] using this
omit hE hH in
include hq in
theorem q_bool {x : Operand} {b : Bool} (e : getO (q x) L = .bool b) : ρ x = .bool b := by
  have := hq x; rw [e] at this; simpa only [VR] using this
omit hE hH in
include hq in
theorem q_str {x : Operand} {s : List Nat} (e : getO (q x) L = .str s) : ∃ b : ByteArray, ρ x = .string b ∧ b.data.toList.map UInt8.toNat = s := by
  have := hq x; rw [e] at this; simpa only [VR] using this
omit hE hH in
include hq in
theorem q_ptr {x : Operand} {f : Key} {g o : Nat} (e : getO (q x) L = .ptr f g o) : ∃ b s n, μ f g = some (b, s, n) ∧ s ≤ o ∧ ρ x = .pointer (some ⟨b, o - s, none⟩) := by
  have := hq x; rw [e] at this; simpa only [VR] using this
omit hE hH in
include hq in
theorem q_slice {x : Operand} {f : Key} {g o len cap sz : Nat} {ex : Bool} (e : getO (q x) L = .slice f g o len cap sz ex) :
    ∃ b s n a c, μ f g = some (b, s, n) ∧ ρ x = .slice (some ⟨b, a, none⟩) len c ∧ len ≤ cap ∧ cap ≤ c ∧ (ex = true → c = cap) ∧ ((s ≤ o ∧ a = o - s ∧ a + c * sz ≤ n) ∨ (len = 0 ∧ c = 0)) := by
  have := hq x; rw [e] at this; simpa only [VR] using this
omit hE hH in
include hq in
theorem q_agg {x : Operand} {l : List AV} (e : getO (q x) L = .agg l) : ∃ cs : Array Value, ρ x = .agg cs ∧ VRs μ l cs.toList := by
  have := hq x; rw [e] at this; simpa only [VR] using this
omit hE hH in
include hq in
theorem q_tuple {x : Operand} {l : List AV} (e : getO (q x) L = .tuple l) : ∃ cs : Array Value, ρ x = .tuple cs ∧ VRs μ l cs.toList := by
  have := hq x; rw [e] at this; simpa only [VR] using this
omit hE hH in
include hq in
theorem q_iface {x : Operand} {t : TypeId} {v : AV} (e : getO (q x) L = .iface t v) : ∃ y, ρ x = .iface t y ∧ VR μ v y := by
  have := hq x; rw [e] at this; simpa only [VR] using this
omit hE hH in
include hq in
theorem q_map {x : Operand} {m : Key} (e : getO (q x) L = .map m) : ∃ b s n, μ m 0 = some (b, s, n) ∧ ρ x = .map (some b) := by
  have := hq x; rw [e] at this; simpa only [VR] using this
def Gives (P : Program) (ρ : Operand → Value) (w : World) (μ : Mu) (o : Oper) (a : AV) : Prop :=
  ∃ v, (execOp ρ o).run P w = .ok (.value v) w ∧ VR μ a v
variable {d : Option Tmp} {ty : TypeId} {pos : String} {af : Array Edge} {gd : Option (Nat × Bool)} {a : AV}
omit hE hH in
include hq in
theorem p_move {x : Operand} (hev : xMv (q x) h L = some a) : Gives P ρ w μ ⟨d, .move x, ty, pos, af, gd⟩ a := by
  rw [xMv, AV.some_eq] at hev
  cases hev
  exact ⟨ρ x, rfl, hq x⟩
omit hE hH in
include hq in
theorem p_assign {x : Operand} (hev : xMv (q x) h L = some a) : Gives P ρ w μ ⟨d, .assign x, ty, pos, af, gd⟩ a := by
  rw [xMv, AV.some_eq] at hev
  cases hev
  exact ⟨ρ x, rfl, hq x⟩
omit hE hH in
include hq in
theorem p_pick {c x y : Operand} (hev : xPick (q c) (q x) (q y) h L = some a) : Gives P ρ w μ ⟨d, .pick c x y, ty, pos, af, gd⟩ a := by
  obtain ⟨b, hb, hev⟩ := asBool_some hev
  have hc := q_bool hq hb
  refine ⟨if b then ρ x else ρ y, ?_, ?_⟩
  · show (do pure (Next.value (if ← Go.asBool (ρ c) then ρ x else ρ y)) : Sem Next).run P w = _
    rw [hc]; rfl
  · cases b with
    | true => rw [cnd_true, AV.some_eq] at hev; cases hev; exact hq x
    | false => rw [cnd_false, AV.some_eq] at hev; cases hev; exact hq y
include hE hH hq in
theorem p_load1 {t : TypeId} {n : Nat} {x : Operand} (ht : E.szA t = some (n, false)) (hev : xLoad1 (q x) h L = some a) : Gives P ρ w μ ⟨d, .load t x, ty, pos, af, gd⟩ a := by
  obtain ⟨f, g, o, hp, hev⟩ := asPtr_some hev
  obtain ⟨b, s, m, hm, hs, hx⟩ := q_ptr hq hp
  obtain ⟨v, hv, hr⟩ := getCell_sound hH hm hs hev
  obtain ⟨ds, hu, hsz, hag⟩ := szA_some ht
  refine ⟨v, run_val (s := Instr.loadAt t (ρ x)) ?_, hr⟩
  rw [hx]
  simp only [Instr.loadAt, Instr.sureAddr, loadVar, Sem.run_bind, Sem.run_pure, Result.andThen_ok, hE.runAgg hu, hag, Bool.false_eq_true, if_false, run_load, hv]
include hE hH hq in
theorem p_loadN {t : TypeId} {n : Nat} {x : Operand} (ht : E.szA t = some (n, true)) (hev : xLoadN n (q x) h L = some a) : Gives P ρ w μ ⟨d, .load t x, ty, pos, af, gd⟩ a := by
  obtain ⟨f, g, o, hp, hev⟩ := asPtr_some hev
  obtain ⟨b, s, m, hm, hs, hx⟩ := q_ptr hq hp
  obtain ⟨l, hl, hev⟩ := opt_inv hev
  obtain ⟨hlen, vs, hvs, hcell⟩ := getCells_sound hH hm hs hl
  cases hev
  obtain ⟨ds, hu, hsz, hag⟩ := szA_some ht
  refine ⟨.agg vs.toArray, run_val (s := Instr.loadAt t (ρ x)) ?_, ?_⟩
  · rw [hx]
    have hlen' : vs.length = n := by rw [← hvs.length, hlen]
    have hrun := run_loadCells_list (P := P) w ⟨b, o - s, none⟩ vs (fun j v hj => by
      have := hcell j v hj
      unfold Addr.add
      split
      · rename_i h0; subst h0; simpa using this
      · exact this)
    rw [hlen'] at hrun
    simp only [Instr.loadAt, Instr.sureAddr, loadVar, Sem.run_bind, Sem.run_pure, Result.andThen_ok, hE.runAgg hu, hag, if_true, hE.runSize hsz, hrun]
  · simp only [VR]; exact ⟨_, rfl, by simpa using hvs⟩
include hE hq in
theorem p_addOff {t : TypeId} {i : Nat} {x : Operand} {fs : List Field} {off n : Nat} (ht : fieldsOf E t = some fs) (hf : fplace E fs i = some (off, n + 1))
    (hev : xAddOff off (q x) h L = some a) : Gives P ρ w μ ⟨d, .fieldAddr t x i, ty, pos, af, gd⟩ a := by
  obtain ⟨f, g, o, hp, hev⟩ := asPtr_some hev
  obtain ⟨b, s, m, hm, hs, hx⟩ := q_ptr hq hp
  cases hev
  unfold fieldsOf at ht
  split at ht
  · rename_i fa hu
    simp only [Option.some.injEq] at ht
    subst ht
    unfold fplace at hf
    split at hf
    · rename_i fd hfd
      split at hf
      · rename_i k hk
        simp only [Option.some.injEq, Prod.mk.injEq] at hf
        obtain ⟨rfl, rfl⟩ := hf
        refine ⟨.pointer (some ⟨b, o + fd.offset - s, none⟩), run_val (s := Instr.fieldAt t (ρ x) i) ?_, ?_⟩
        · rw [hx]
          have hfa : fa[i]? = some fd := by rw [← Array.getElem?_toList]; exact hfd
          simp only [Instr.fieldAt, Sem.run_bind, hE.runUnd hu, Result.andThen_ok, hfa, Instr.sureAddr, Sem.run_pure, fieldPlace, hE.runSize hk, Sem.run_ite]
          simp only [Nat.add_eq_zero_iff, Nat.one_ne_zero, and_false, if_false, Result.andThen_ok]
          unfold Addr.add
          split
          · rename_i h0; rw [h0]; rfl
          · simp only [Result.ok.injEq, Value.pointer.injEq, Option.some.injEq, Addr.mk.injEq, true_and, and_true]
            omega
        · simp only [VR]
          exact ⟨b, s, m, hm, by show s ≤ o + fd.offset; omega, rfl⟩
      · cases hf
    · cases hf
  · cases ht
omit hE hH in
include hq in
theorem p_extract {x : Operand} {i : Nat} (hev : xExtract i (q x) h L = some a) : Gives P ρ w μ ⟨d, .extract x i, ty, pos, af, gd⟩ a := by
  obtain ⟨l, hl, hev⟩ := asTuple_some hev
  obtain ⟨cs, hx, hr⟩ := q_tuple hq hl
  rw [nthA_eq] at hev
  obtain ⟨v, hv, hvr⟩ := hr.get hev
  refine ⟨v, run_val (s := Instr.extract (ρ x) i) ?_, hvr⟩
  rw [hx]
  have : cs[i]? = some v := by rw [← Array.getElem?_toList]; exact hv
  simp only [Instr.extract, this]; rfl
include hE hq in
theorem p_iface {t : TypeId} {x : Operand} {ds : TypeDesc} (hu : E.und t = some ds) (hn : ∀ ms, ds ≠ .interface ms) (hev : xIface t (q x) h L = some a) :
    Gives P ρ w μ ⟨d, .makeInterface t x, ty, pos, af, gd⟩ a := by
  cases hev
  refine ⟨.iface t (ρ x), run_val (s := Instr.makeInterface t (ρ x)) ?_, ?_⟩
  · simp only [Instr.makeInterface, Sem.run_bind, hE.runUnd hu, Result.andThen_ok]
    cases ds <;> first | rfl | exact absurd rfl (hn _)
  · simp only [VR]; exact ⟨_, rfl, hq x⟩
omit hE hH in
include hq in
theorem getOs_sound : ∀ (xs : List Operand), VRs μ (getOs (xs.map q) L) (xs.map ρ)
  | [] => .nil
  | x :: xs => .cons (hq x) (getOs_sound xs)
omit hE hH in
include hq in
theorem p_func {fn : Fn} {first cap : Array Operand} (hev : xFunc fn (first.toList.map q) (cap.toList.map q) h L = some a) : Gives P ρ w μ ⟨d, .makeFunc fn first cap, ty, pos, af, gd⟩ a := by
  cases hev
  refine ⟨.func fn (first.map ρ) (cap.map ρ), rfl, ?_⟩
  simp only [VR]
  exact ⟨fn, first.map ρ, cap.map ρ, rfl, rfl, by simpa using getOs_sound hq first.toList, by simpa using getOs_sound hq cap.toList⟩
include hE hq in
theorem p_convI {s t : TypeId} {x : Operand} {k : IntKind} {ds : TypeDesc} (h1 : E.und s = some ds) (h2 : E.und t = some (.int k)) (hev : xConvI k (q x) h L = some a) :
    Gives P ρ w μ ⟨d, .convert s t x, ty, pos, af, gd⟩ a := by
  have run : ∀ (kk : IntKind) (n : Int), ρ x = .int kk n → (convert s t (ρ x)).run P w = .ok (.int k (k.wrap n)) w := by
    intro kk n hx
    rw [hx]
    simp only [convert, Sem.run_bind, hE.runUnd h1, hE.runUnd h2, Result.andThen_ok]
    rfl
  unfold xConvI at hev
  cases hg : getO (q x) L with
  | int kk n =>
    rw [hg] at hev
    replace hev : some (mkInt k n) = some a := hev
    rw [mkInt_eq] at hev
    cases hev
    exact ⟨.int k (k.wrap n), run_val (s := convert s t (ρ x)) (run _ _ (q_int hq hg)), by simp only [VR]⟩
  | rng kk lo hi =>
    rw [hg] at hev
    replace hev : cnd (keq k .i64) (cnd (ile (-9223372036854775808) lo) (cnd (ile hi 9223372036854775807) (some (AV.rng .i64 lo hi)) none) none) none = some a := hev
    obtain ⟨hk, hev⟩ := cnd_inv hev
    obtain ⟨hlo, hev⟩ := cnd_inv hev
    obtain ⟨hhi, hev⟩ := cnd_inv hev
    cases hev
    rw [keq_eq] at hk
    rw [ile_eq] at hlo hhi
    have hk' : k = .i64 := by simpa using hk
    have hlo' : -9223372036854775808 ≤ lo := by simpa using hlo
    have hhi' : hi ≤ 9223372036854775807 := by simpa using hhi
    have := hq x
    rw [hg] at this
    simp only [VR] at this
    obtain ⟨n, hn, g1, g2⟩ := this
    subst hk'
    have hw : IntKind.wrap .i64 n = n := wrap_i64 (by omega) (by omega)
    refine ⟨.int .i64 n, run_val (s := convert s t (ρ x)) (by rw [run _ _ hn, hw]), by simp only [VR]; exact ⟨n, rfl, g1, g2⟩⟩
  | sx kk f c lo hi =>
    rw [hg] at hev
    obtain ⟨hsk, hev⟩ := cnd_inv (show cnd (sxK k) (cnd (fitK kk lo hi) (some (AV.sx k f c lo hi)) (cnd (cnd (keq kk .i64) (keq k .u8) false) (some (AV.sx k f c lo hi)) none)) none = some a from hev)
    have := hq x
    rw [hg] at this
    simp only [VR] at this
    obtain ⟨hn, g1, g2⟩ := this
    cases hfit : fitK kk lo hi with
    | true =>
      rw [hfit] at hev
      cases hev
      rw [fitK_wrap hfit g1 g2] at hn
      exact ⟨.int k (k.wrap (Val.n f + c)), run_val (s := convert s t (ρ x)) (run _ _ hn), by simp only [VR]; exact ⟨by trivial, g1, g2⟩⟩
    | false =>
      rw [hfit] at hev
      cases hkk : cnd (keq kk .i64) (keq k .u8) false with
      | false => rw [hkk] at hev; cases hev
      | true =>
        rw [hkk] at hev
        cases hev
        cases h3 : keq kk .i64 with
        | false => rw [h3] at hkk; cases hkk
        | true =>
          rw [h3] at hkk
          have e1 := keq_true h3
          have e2 := keq_true (show keq k .u8 = true from hkk)
          subst e1 e2
          refine ⟨.int .u8 (IntKind.wrap .u8 (Val.n f + c)), run_val (s := convert s t (ρ x)) ?_, by simp only [VR]; exact ⟨by trivial, g1, g2⟩⟩
          rw [run _ _ hn, wrap_u8_i64]
  | md kk m r =>
    rw [hg] at hev
    obtain ⟨hle, hev⟩ := cnd_inv (show cnd (Nat.ble (kmax kk) (kmax k)) (some (AV.md k m r)) none = some a from hev)
    have hle := Nat.le_of_ble_eq_true hle
    cases hev
    have := hq x
    rw [hg] at this
    simp only [VR] at this
    obtain ⟨n, hn, g1, g2⟩ := this
    refine ⟨.int k (n : Int), run_val (s := convert s t (ρ x)) (by rw [run _ _ hn]; rw [show k.wrap (n : Int) = (n : Int) from wrap_small k n (by omega)]), by simp only [VR]; exact ⟨n, rfl, g1, by omega⟩⟩
  | _ => rw [hg] at hev; cases hev
omit hE hH in
theorem isSh_iff (op : BinOp) : isSh op = true ↔ op = .shl ∨ op = .shr := by cases op <;> simp [isSh]
omit hE hH in
theorem iarith_sound {op : BinOp} {k : IntKind} {m n : Int} {t : TypeId} (hs : isSh op = false) (hev : iarith op k m n = some a) :
    ∃ v, (binOp op t (.int k m) (.int k n)).run P w = .ok v w ∧ VR μ a v := by
  cases op <;> simp only [iarith, ev_bool_eq, mkInt_eq, iadd_eq, isub_eq, ilt_eq, ile_eq, bnot_eq] at hev
  case shl => cases hs
  case shr => cases hs
  case quo =>
    obtain ⟨hb, hev⟩ := cnd_inv' hev
    rw [ieq_eq] at hb
    have hn : n ≠ 0 := by simpa using hb
    cases hev
    exact ⟨.int k (k.wrap (m.tdiv n)), by simp [binOp, Op.intDiv, hn], by simp only [VR]⟩
  case rem =>
    obtain ⟨hb, hev⟩ := cnd_inv' hev
    rw [ieq_eq] at hb
    have hn : n ≠ 0 := by simpa using hb
    cases hev
    exact ⟨.int k (m.tmod n), by simp [binOp, Op.intDiv, hn], by simp only [VR]⟩
  all_goals
    cases hev
    refine ⟨_, by simp only [binOp, ne_eq, not_true_eq_false, if_false, Op.intArith, Op.intBits, Op.intCmp]; rfl, ?_⟩
    simp only [VR, ieq_eq]
    try rfl
    try (rw [Value.bool.injEq, Bool.eq_iff_iff]; simp)
omit hE hH in
theorem ishift_sound {op : BinOp} {k l : IntKind} {m n : Int} {t : TypeId} (hs : isSh op = true) (hev : ishift op k m n = some a) :
    ∃ v, (binOp op t (.int k m) (.int l n)).run P w = .ok v w ∧ VR μ a v := by
  obtain ⟨hb, hev⟩ := cnd_inv' hev
  rw [ilt_eq] at hb
  have hn : ¬ n < 0 := by simpa using hb
  rcases (isSh_iff op).1 hs with rfl | rfl
  · cases hev
    refine ⟨.int k (k.wrap (m * 2 ^ n.toNat.min k.bits)), ?_, by simp only [VR]⟩
    show (Op.shift .shl k m l n).run P w = _
    rw [Op.shift, if_neg hn]; rfl
  · cases hev
    refine ⟨.int k (m.fdiv (2 ^ n.toNat.min k.bits)), ?_, by simp only [VR]⟩
    show (Op.shift .shr k m l n).run P w = _
    rw [Op.shift, if_neg hn]; rfl
/-! ## strings -/
omit hE hH in
theorem map_inj : ∀ {l m : List UInt8}, l.map UInt8.toNat = m.map UInt8.toNat → l = m
  | [], [], _ => rfl
  | [], _ :: _, h => by simp at h
  | _ :: _, [], h => by simp at h
  | a :: l, b :: m, h => by
    simp only [List.map_cons, List.cons.injEq] at h
    rw [UInt8.toNat_inj.1 h.1, map_inj h.2]
omit hE hH in
theorem llt_eq : ∀ (l m : List UInt8), llt (l.map UInt8.toNat) (m.map UInt8.toNat) = Op.bytesLess l m
  | _, [] => by simp [llt, Op.bytesLess]
  | [], _ :: _ => by simp [llt, Op.bytesLess]
  | a :: l, b :: m => by
    simp only [List.map_cons, llt, Op.bytesLess, cnd_eq, llt_eq l m, Nat.blt_eq, Nat.beq_eq]
    rw [Bool.eq_iff_iff]
    by_cases h1 : a.toNat < b.toNat
    · have : a < b := UInt8.lt_iff_toNat_lt.2 h1
      simp [h1, this]
    · have n1 : ¬ a < b := fun h => h1 (UInt8.lt_iff_toNat_lt.1 h)
      by_cases h2 : a.toNat = b.toNat
      · have : a = b := UInt8.toNat_inj.1 h2
        simp [this]
      · have : a ≠ b := fun h => h2 (by rw [h])
        simp [h1, n1, h2, this]
omit hE hH in
theorem less_tri : ∀ (l m : List UInt8), (Op.bytesLess l m || l == m) = !Op.bytesLess m l
  | [], [] => by simp [Op.bytesLess]
  | [], _ :: _ => by simp [Op.bytesLess]
  | _ :: _, [] => by simp [Op.bytesLess]
  | a :: l, b :: m => by
    have ih := less_tri l m
    simp only [Op.bytesLess]
    by_cases h1 : a < b
    · have h2 : ¬ b < a := fun h => absurd (UInt8.lt_trans h1 h) (UInt8.lt_irrefl a)
      have h3 : ¬ b = a := fun h => by subst h; exact UInt8.lt_irrefl _ h1
      simp [h1, h2, h3]
    · by_cases h2 : b < a
      · have h3 : ¬ a = b := fun h => by subst h; exact UInt8.lt_irrefl _ h2
        simp [h1, h2, h3]
      · have h3 : a = b := by
          have k1 : ¬ a.toNat < b.toNat := fun h => h1 (UInt8.lt_iff_toNat_lt.2 h)
          have k2 : ¬ b.toNat < a.toNat := fun h => h2 (UInt8.lt_iff_toNat_lt.2 h)
          exact UInt8.toNat_inj.1 (by omega)
        subst h3
        simpa [h1] using ih
omit hE hH in
theorem strOp_sound {op : BinOp} {x y : ByteArray} {t : TypeId} (hev : strOp op (x.data.toList.map UInt8.toNat) (y.data.toList.map UInt8.toNat) = some a) :
    ∃ v, (binOp op t (.string x) (.string y)).run P w = .ok v w ∧ VR μ a v := by
  have e1 : ∀ u v : ByteArray, leq (u.data.toList.map UInt8.toNat) (v.data.toList.map UInt8.toNat) = (u.toList == v.toList) := by
    intro u v
    rw [leq_eq, Go.ByteArray.toList_eq, Go.ByteArray.toList_eq, Bool.eq_iff_iff]
    simp only [decide_eq_true_eq, beq_iff_eq]
    exact ⟨map_inj, fun h => by rw [h]⟩
  have e2 : ∀ u v : ByteArray, llt (u.data.toList.map UInt8.toNat) (v.data.toList.map UInt8.toNat) = Op.bytesLess u.toList v.toList := by
    intro u v
    rw [llt_eq, Go.ByteArray.toList_eq, Go.ByteArray.toList_eq]
  cases op <;> simp only [strOp, e1, e2, bnot_eq] at hev
  case add =>
    obtain ⟨hb, hev⟩ := cnd_inv hev
    cases hev
    have hle := Nat.le_of_ble_eq_true hb
    simp only [List.length_map, Array.length_toList] at hle
    have hx : x.data.size = x.size := rfl
    have hy : y.data.size = y.size := rfl
    refine ⟨.string (x ++ y), ?_, ?_⟩
    · have hn : ¬ ((x.size + y.size : Nat) : Int) > IntKind.i64.max := by
        simp [IntKind.max, IntKind.signed, IntKind.bits]; omega
      show (Op.stringOp .add x y).run P w = _
      simp only [Op.stringOp]
      rw [if_neg hn]; rfl
    · simp only [VR]
      exact ⟨_, rfl, by simp⟩
  case leq =>
    cases hev
    refine ⟨_, rfl, ?_⟩
    simp only [VR]
    rw [less_tri]
  case geq => cases hev; exact ⟨_, rfl, by simp only [VR]⟩
  case gtr =>
    cases hev
    refine ⟨_, rfl, ?_⟩
    simp only [VR]
    rw [less_tri, Bool.not_not]
  case eql => cases hev; exact ⟨_, rfl, by simp only [VR]⟩
  case neq => cases hev; exact ⟨_, rfl, by simp only [VR]⟩
  case lss => cases hev; exact ⟨_, rfl, by simp only [VR]⟩
  all_goals cases hev
end
end Go.Ev

namespace Go.Ev
set_option linter.unusedVariables false
set_option linter.unusedSectionVars false
variable [Val] [Fk]
section
variable {E : Env} {P : Program} (hE : EnvOk E P) {B : Nat} {μ : Mu} {h : Hp} {w : World} (hH : HR B μ h w)
  {L : Lo} {ρ : Operand → Value} {q : Operand → Opd} (hq : ∀ x, VR μ (getO (q x) L) (ρ x))
  {d : Option Tmp} {ty : TypeId} {pos : String} {af : Array Edge} {gd : Option (Nat × Bool)} {a : AV}
theorem run_eqGuard_plain (op : BinOp) (t : TypeId) (x y : Operand) (u v : Value) (h1 : ¬(u = .nilIface ∧ v = .nilIface)) (h2 : ¬ ∃ c e, u = .agg c ∧ v = .agg e) :
    (eqGuard op t x y u v).run P w = .ok () w := by
  unfold eqGuard
  by_cases ho : (!(match op with | .eql => true | .neq => true | _ => false)) = true
  · rw [if_pos (by cases op <;> first | rfl | cases ho)]; rfl
  · rw [if_neg (by cases op <;> first | exact ho | (intro hh; exact ho rfl))]
    cases u <;> cases v <;> first
      | rfl
      | exact absurd ⟨rfl, rfl⟩ h1
      | exact absurd ⟨_, _, rfl, rfl⟩ h2
theorem run_bin_plain {op : BinOp} {t yt : TypeId} {x y : Operand} {v : Value} (h1 : ¬(ρ x = .nilIface ∧ ρ y = .nilIface)) (h2 : ¬ ∃ c e, ρ x = .agg c ∧ ρ y = .agg e)
    (hr : (binOp op t (ρ x) (ρ y)).run P w = .ok v w) : (execOp ρ ⟨d, .binOp op t x y yt, ty, pos, af, gd⟩).run P w = .ok (.value v) w := by
  refine run_val (s := do eqGuard op t x y (ρ x) (ρ y); binOp op t (ρ x) (ρ y)) ?_
  simp only [Sem.run_bind, run_eqGuard_plain op t x y _ _ h1 h2, Result.andThen_ok, hr]
include hq in
theorem q_rng {x : Operand} {k : IntKind} {lo hi : Int} (e : getO (q x) L = .rng k lo hi) : ∃ n, ρ x = .int k n ∧ lo ≤ n ∧ n ≤ hi := by
  have := hq x; rw [e] at this; simpa only [VR] using this
include hq in
theorem q_md {x : Operand} {k : IntKind} {m r : Nat} (e : getO (q x) L = .md k m r) : ∃ n : Nat, ρ x = .int k (n : Int) ∧ n % m = r ∧ n ≤ kmax k := by
  have := hq x; rw [e] at this; simpa only [VR] using this
theorem cmp_bool {b : Bool} {c c' : Bool} {r : AV} (hc : c = true → b = true) (hc' : c' = true → b = false)
    (h : cnd c (some (.bool true)) (cnd c' (some (.bool false)) (some .ub)) = some r) : VR μ r (.bool b) := by
  cases c with
  | true => cases h; rw [hc rfl]; simp only [VR]
  | false =>
    cases c' with
    | true => cases h; rw [hc' rfl]; simp only [VR]
    | false => cases h; simp only [VR]; exact ⟨b, rfl⟩
theorem ibinR_sound {op : BinOp} {u v : AV} {x y : Value} {t : TypeId} (hx : VR μ u x) (hy : VR μ v y) (hev : ibinR op u v = some a) :
    (∃ k m, x = .int k m) ∧ ∃ r, (binOp op t x y).run P w = .ok r w ∧ VR μ a r := by
  unfold ibinR at hev
  split at hev
  · rename_i k lo hi l n
    simp only [VR] at hx hy
    obtain ⟨m, rfl, h1, h2⟩ := hx
    subst hy
    replace hev := cnd_inv hev
    have := keq_true hev.1; subst this
    replace hev := hev.2
    refine ⟨⟨_, _, rfl⟩, ?_⟩
    split at hev <;> try simp only [ilt_eq, ile_eq] at hev
    · exact ⟨_, by simp only [binOp, ne_eq, not_true_eq_false, if_false, Op.intCmp]; rfl, cmp_bool (b := decide (m < n)) (fun hc => by simp at hc ⊢; omega) (fun hc => by simp at hc ⊢; omega) hev⟩
    · exact ⟨_, by simp only [binOp, ne_eq, not_true_eq_false, if_false, Op.intCmp]; rfl, cmp_bool (b := decide (m ≤ n)) (fun hc => by simp at hc ⊢; omega) (fun hc => by simp at hc ⊢; omega) hev⟩
    · exact ⟨_, by simp only [binOp, ne_eq, not_true_eq_false, if_false, Op.intCmp]; rfl, cmp_bool (b := decide (m > n)) (fun hc => by simp at hc ⊢; omega) (fun hc => by simp at hc ⊢; omega) hev⟩
    · exact ⟨_, by simp only [binOp, ne_eq, not_true_eq_false, if_false, Op.intCmp]; rfl, cmp_bool (b := decide (m ≥ n)) (fun hc => by simp at hc ⊢; omega) (fun hc => by simp at hc ⊢; omega) hev⟩
    · cases hev
  · rename_i l n k lo hi
    simp only [VR] at hx hy
    obtain ⟨m, rfl, h1, h2⟩ := hy
    subst hx
    replace hev := cnd_inv hev
    have := keq_true hev.1; subst this
    replace hev := hev.2
    refine ⟨⟨_, _, rfl⟩, ?_⟩
    split at hev <;> try simp only [ilt_eq, ile_eq] at hev
    · exact ⟨_, by simp only [binOp, ne_eq, not_true_eq_false, if_false, Op.intCmp]; rfl, cmp_bool (b := decide (n < m)) (fun hc => by simp at hc ⊢; omega) (fun hc => by simp at hc ⊢; omega) hev⟩
    · exact ⟨_, by simp only [binOp, ne_eq, not_true_eq_false, if_false, Op.intCmp]; rfl, cmp_bool (b := decide (n ≤ m)) (fun hc => by simp at hc ⊢; omega) (fun hc => by simp at hc ⊢; omega) hev⟩
    · cases hev
  · rename_i k m r l n
    simp only [VR] at hx hy
    obtain ⟨p, rfl, hp, _⟩ := hx
    subst hy
    replace hev := cnd_inv hev
    have := keq_true hev.1; subst this
    replace hev := hev.2
    refine ⟨⟨_, _, rfl⟩, ?_⟩
    split at hev
    · obtain ⟨hle, hev⟩ := cnd_inv hev
      rw [ile_eq] at hle
      have hle' : n ≤ 0 := by simpa using hle
      cases hev
      refine ⟨_, by simp only [binOp, ne_eq, not_true_eq_false, if_false, Op.intCmp]; rfl, ?_⟩
      simp only [VR]
      rw [Value.bool.injEq]
      simp; omega
    · obtain ⟨heq, hev⟩ := cnd_inv hev
      rw [ieq_eq] at heq
      have heq' : n = (m : Int) := by simpa using heq
      obtain ⟨hpos, hev⟩ := cnd_inv hev
      have hpos' : 0 < m := by simpa using hpos
      cases hev
      subst heq'
      have hm0 : (m : Int) ≠ 0 := by omega
      refine ⟨.int k ((p : Int).tmod m), by simp [binOp, Op.intDiv]; omega, ?_⟩
      simp only [VR]
      rw [← hp]; rfl
    · cases hev
  · rename_i k f c lo hi l n
    simp only [VR] at hx hy
    obtain ⟨rfl, g1, g2⟩ := hx
    subst hy
    obtain ⟨hk, hev1⟩ := cnd_inv hev
    obtain ⟨hs, hev'⟩ := cnd_inv hev1
    clear hev hev1
    have := keq_true hk; subst this
    refine ⟨⟨_, _, rfl⟩, ?_⟩
    split at hev'
    · cases hev'
      refine ⟨.int k (k.wrap (k.wrap (Val.n f + c) + n)), by simp only [binOp, ne_eq, not_true_eq_false, if_false, Op.intArith]; rfl, ?_⟩
      rw [wrap_add hs, iadd_eq, iadd_eq, iadd_eq]
      simp only [VR]
      exact ⟨by rw [Int.add_assoc], by omega, by omega⟩
    · cases hev'
      refine ⟨.int k (k.wrap (k.wrap (Val.n f + c) - n)), by simp only [binOp, ne_eq, not_true_eq_false, if_false, Op.intArith]; rfl, ?_⟩
      rw [Int.sub_eq_add_neg, wrap_add hs, isub_eq, isub_eq, isub_eq]
      simp only [VR]
      exact ⟨by rw [Int.add_assoc, ← Int.sub_eq_add_neg], by omega, by omega⟩
    · cases hev'
  · rename_i l n k f c lo hi
    simp only [VR] at hx hy
    obtain ⟨rfl, g1, g2⟩ := hy
    subst hx
    obtain ⟨hk, hev1⟩ := cnd_inv hev
    obtain ⟨hs, hev'⟩ := cnd_inv hev1
    clear hev hev1
    have := keq_true hk; subst this
    refine ⟨⟨_, _, rfl⟩, ?_⟩
    split at hev'
    · cases hev'
      refine ⟨.int k (k.wrap (n + k.wrap (Val.n f + c))), by simp only [binOp, ne_eq, not_true_eq_false, if_false, Op.intArith]; rfl, ?_⟩
      rw [Int.add_comm n, wrap_add hs, iadd_eq, iadd_eq, iadd_eq]
      simp only [VR]
      exact ⟨by rw [Int.add_assoc], by omega, by omega⟩
    · cases hev'
  · cases hev
theorem cmp_sx {μ : Mu} {h : Hp} {w : World} {B : Nat} (hH : HR B μ h w) {k : IntKind} {f : Key} {c t : Int} {neg : Bool} {r : AV} (hev : sxCmp h k f c t neg = some r) :
    k.wrap (Val.n f + c) = Val.n f + c ∧ ∀ b, b = (decide (Val.n f ≤ t) != neg) → VR μ r (.bool b) := by
  obtain ⟨lo, hi, ho, hev⟩ := asIv_some hev
  obtain ⟨g1, g2⟩ := hH.ivOf ho
  obtain ⟨hfit, hev⟩ := cnd_inv hev
  rw [iadd_eq, iadd_eq] at hfit
  refine ⟨fitK_wrap hfit (by omega) (by omega), fun b hb => ?_⟩
  subst hb
  simp only [ile_eq, ilt_eq, bnot_eq] at hev
  cases h1 : decide (hi ≤ t) with
  | true =>
    rw [h1] at hev
    cases hev
    have : Val.n f ≤ t := by have := of_decide_eq_true h1; omega
    simp only [VR, this, decide_true]
    cases neg <;> rfl
  | false =>
    rw [h1] at hev
    cases h2 : decide (t < lo) with
    | true =>
      rw [h2] at hev
      cases hev
      have : ¬ Val.n f ≤ t := by have := of_decide_eq_true h2; omega
      simp only [VR, this, decide_false]
      cases neg <;> rfl
    | false =>
      rw [h2] at hev
      cases hev
      simp only [VR]
theorem eq_sx {μ : Mu} {h : Hp} {w : World} {B : Nat} (hH : HR B μ h w) {k : IntKind} {f : Key} {c t : Int} {neg : Bool} {r : AV} (hev : sxEq h k f c t neg = some r) :
    k.wrap (Val.n f + c) = Val.n f + c ∧ ∀ b, b = (decide (Val.n f = t) != neg) → VR μ r (.bool b) := by
  obtain ⟨lo, hi, ho, hev⟩ := asIv_some hev
  obtain ⟨g1, g2⟩ := hH.ivOf ho
  obtain ⟨hfit, hev⟩ := cnd_inv hev
  rw [iadd_eq, iadd_eq] at hfit
  refine ⟨fitK_wrap hfit (by omega) (by omega), fun b hb => ?_⟩
  subst hb
  simp only [ieq_eq, ilt_eq, bnot_eq] at hev
  cases h1 : decide (t < lo) with
  | true =>
    rw [h1] at hev
    cases hev
    have : ¬ Val.n f = t := by have := of_decide_eq_true h1; omega
    simp only [VR, this, decide_false]
    cases neg <;> rfl
  | false =>
    rw [h1] at hev
    cases h2 : decide (hi < t) with
    | true =>
      rw [h2] at hev
      cases hev
      have : ¬ Val.n f = t := by have := of_decide_eq_true h2; omega
      simp only [VR, this, decide_false]
      cases neg <;> rfl
    | false =>
      rw [h2] at hev
      cases h3 : cnd (decide (lo = t)) (decide (hi = t)) false with
      | true =>
        rw [h3] at hev
        cases hev
        have : Val.n f = t := by
          cases h4 : decide (lo = t) with
          | false => rw [h4] at h3; cases h3
          | true =>
            rw [h4] at h3
            have e1 := of_decide_eq_true h4
            have e2 := of_decide_eq_true (show decide (hi = t) = true from h3)
            omega
        simp only [VR, this, decide_true]
        cases neg <;> rfl
      | false =>
        rw [h3] at hev
        cases hev
        simp only [VR]
theorem sxNorm_sound {μ : Mu} {h : Hp} {w : World} {B : Nat} (hH : HR B μ h w) {X : AV} {v : Value} (hx : VR μ X v) : VR μ (sxNorm h X) v := by
  unfold sxNorm
  split
  · rename_i f c a b
    cases ho : hget f h with
    | iv lo hi =>
      show VR μ (cnd (cnd (ieq lo hi) (fitK .u8 (iadd lo c) (iadd lo c)) false) (.int .u8 (iadd lo c)) (.sx .u8 f c a b)) v
      cases hc : cnd (ieq lo hi) (fitK .u8 (iadd lo c) (iadd lo c)) false with
      | false => exact hx
      | true =>
        obtain ⟨g1, g2⟩ := hH.ivOf ho
        cases he : ieq lo hi with
        | false => rw [he] at hc; cases hc
        | true =>
          rw [he] at hc
          rw [ieq_eq] at he
          have he := of_decide_eq_true he
          have hf : fitK .u8 (iadd lo c) (iadd lo c) = true := hc
          rw [iadd_eq] at hf
          simp only [VR] at hx
          obtain ⟨rfl, _, _⟩ := hx
          rw [fitK_wrap hf (by omega) (by omega), iadd_eq]
          simp only [cnd_true, VR]
          rw [show Val.n f + c = lo + c by omega]
    | _ => exact hx
  · exact hx
theorem avSame_sound {μ : Mu} {X Y : AV} {a b : UInt8} {r : Bool} (hx : VR μ X (.int .u8 (a.toNat : Int))) (hy : VR μ Y (.int .u8 (b.toNat : Int))) (hev : avSame X Y = some r) : r = decide (a = b) := by
  unfold avSame at hev
  split at hev
  · simp only [VR] at hx hy
    cases hx; cases hy
    rw [ieq_eq] at hev
    cases hev
    by_cases e : a = b
    · subst e; simp
    · rw [decide_eq_false e, decide_eq_false]
      intro hh
      exact e (UInt8.toNat_inj.1 (by omega))
  · rename_i k f c lo hi l f' c' lo' hi'
    simp only [VR] at hx hy
    obtain ⟨hx, _, _⟩ := hx
    obtain ⟨hy, _, _⟩ := hy
    obtain ⟨hk, hev1⟩ := cnd_inv hev
    obtain ⟨hc, hev'⟩ := cnd_inv hev1
    clear hev hev1
    have := Key.beq_eq hk
    subst this
    rw [ieq_eq] at hc
    have := of_decide_eq_true hc
    subst this
    cases hev'
    simp only [Value.int.injEq] at hx hy
    obtain ⟨rfl, hx⟩ := hx
    obtain ⟨rfl, hy⟩ := hy
    have : a = b := UInt8.toNat_inj.1 (by omega)
    subst this; simp
  · cases hev
theorem stSame_sound {μ : Mu} {h : Hp} {w : World} {B : Nat} (hH : HR B μ h w) : ∀ (l m : List AV) (a b : List UInt8) (r : Bool), VRs μ l (a.map fun u => .int .u8 (u.toNat : Int)) → VRs μ m (b.map fun u => .int .u8 (u.toNat : Int)) → stSame h l m = some r → r = decide (a = b)
  | [], [], a, b, r, hl, hm, hev => by
    have h1 := hl.length
    have h2 := hm.length
    simp only [List.length_nil, List.length_map] at h1 h2
    rw [List.length_eq_zero_iff.1 h1.symm, List.length_eq_zero_iff.1 h2.symm]
    cases hev; rfl
  | [], y :: m, a, b, r, hl, hm, hev => by
    have h1 := hl.length
    have h2 := hm.length
    simp only [List.length_nil, List.length_cons, List.length_map] at h1 h2
    rw [List.length_eq_zero_iff.1 h1.symm]
    cases hev
    cases b with
    | nil => simp at h2
    | cons _ _ => simp
  | x :: l, [], a, b, r, hl, hm, hev => by
    have h1 := hl.length
    have h2 := hm.length
    simp only [List.length_nil, List.length_cons, List.length_map] at h1 h2
    rw [List.length_eq_zero_iff.1 h2.symm]
    cases hev
    cases a with
    | nil => simp at h1
    | cons _ _ => simp
  | x :: l, y :: m, a, b, r, hl, hm, hev => by
    cases a with
    | nil => have h1 := hl.length; simp at h1
    | cons u a =>
      cases b with
      | nil => have h1 := hm.length; simp at h1
      | cons v b =>
        obtain ⟨_, _, e1, hx, hl⟩ := hl.cons_inv
        obtain ⟨_, _, e2, hy, hm⟩ := hm.cons_inv
        simp only [List.map_cons, List.cons.injEq] at e1 e2
        obtain ⟨rfl, rfl⟩ := e1
        obtain ⟨rfl, rfl⟩ := e2
        have i1 := fun r => avSame_sound (r := r) (sxNorm_sound hH hx) (sxNorm_sound hH hy)
        have i2 := fun r => stSame_sound hH l m a b r hl hm
        unfold stSame at hev
        split at hev
        · rename_i h1
          have e1 := i1 _ h1
          have e2 := i2 _ hev
          rw [e2]
          have : u = v := of_decide_eq_true e1.symm
          subst this; simp
        · rename_i h1 h2
          cases hev
          have e1 : ¬ u = v := of_decide_eq_false (i1 _ h1).symm
          simp [e1]
        · rename_i h1 h2
          cases hev
          have e1 : ¬ a = b := of_decide_eq_false (i2 _ h2).symm
          simp [e1]
        · cases hev
theorem strEql {x y : ByteArray} {t : TypeId} {w : World} : (binOp .eql t (.string x) (.string y)).run P w = .ok (.bool (x.data == y.data)) w := by
  show (Op.stringOp .eql x y).run P w = _
  have : (x.toList == y.toList) = (x.data == y.data) := by
    rw [Go.ByteArray.toList_eq, Go.ByteArray.toList_eq, Bool.eq_iff_iff]
    simp
  simp only [Op.stringOp, this]
  rfl
theorem strNeq {x y : ByteArray} {t : TypeId} {w : World} : (binOp .neq t (.string x) (.string y)).run P w = .ok (.bool (!(x.data == y.data))) w := by
  show (Op.stringOp .neq x y).run P w = _
  have : (x.toList == y.toList) = (x.data == y.data) := by
    rw [Go.ByteArray.toList_eq, Go.ByteArray.toList_eq, Bool.eq_iff_iff]
    simp
  simp only [Op.stringOp, this]
  rfl
theorem natAs_sound {μ : Mu} : ∀ (l : List UInt8), VRs μ (natAs (l.map UInt8.toNat)) (l.map fun u => .int .u8 (u.toNat : Int))
  | [] => .nil
  | u :: l => .cons (by simp only [VR]; rfl) (natAs_sound l)
theorem stCmp_sound {μ : Mu} {h : Hp} {B : Nat} {a : AV} {w : World} (hH : HR B μ h w) {op : BinOp} {l m : List AV} {x y : ByteArray} {t : TypeId}
    (h1 : VRs μ l (x.data.toList.map fun u => .int .u8 (u.toNat : Int))) (h2 : VRs μ m (y.data.toList.map fun u => .int .u8 (u.toNat : Int))) (hev : stCmp h op l m = some a) :
    ∃ r, (binOp op t (.string x) (.string y)).run P w = .ok r w ∧ VR μ a r := by
  have same : ∀ r, stSame h l m = some r → r = (x.data == y.data) := fun r hr => by
    rw [stSame_sound hH l m _ _ r h1 h2 hr, Bool.eq_iff_iff]
    simp [Array.toList_inj]
  unfold stCmp at hev
  split at hev
  · obtain ⟨r, hr, hev⟩ := opt_inv hev
    rw [ev_bool_eq] at hev
    cases hev
    exact ⟨.bool r, by rw [same r hr]; exact strEql, by simp only [VR]⟩
  · obtain ⟨r, hr, hev⟩ := opt_inv hev
    rw [ev_bool_eq] at hev
    cases hev
    exact ⟨.bool (!r), by rw [same r hr]; exact strNeq, by simp only [VR, bnot_eq]⟩
  · cases hev
theorem ibinS_sound {μ : Mu} {h : Hp} {B : Nat} {a : AV} {w : World} (hH : HR B μ h w) {op : BinOp} {u v : AV} {x y : Value} {t : TypeId} (hx : VR μ u x) (hy : VR μ v y) (hev : ibinS h op u v = some a) :
    ((∃ k m, x = .int k m) ∨ ∃ s, x = .string s) ∧ ∃ r, (binOp op t x y).run P w = .ok r w ∧ VR μ a r := by
  unfold ibinS at hev
  split at hev
  · rename_i k f c lo hi l n
    simp only [VR] at hx hy
    obtain ⟨rfl, _, _⟩ := hx
    subst hy
    obtain ⟨hk, hev'⟩ := cnd_inv hev
    clear hev
    have := keq_true hk; subst this
    have hev := hev'
    clear hev'
    refine ⟨.inl ⟨_, _, rfl⟩, ?_⟩
    split at hev <;> try simp only [isub_eq] at hev
    · obtain ⟨e1, e2⟩ := cmp_sx hH hev
      exact ⟨_, by simp only [binOp, ne_eq, not_true_eq_false, if_false, Op.intCmp]; rfl, e2 _ (by rw [e1]; rw [Bool.bne_false]; congr 1; apply propext; constructor <;> intro _ <;> omega)⟩
    · obtain ⟨e1, e2⟩ := cmp_sx hH hev
      exact ⟨_, by simp only [binOp, ne_eq, not_true_eq_false, if_false, Op.intCmp]; rfl, e2 _ (by rw [e1]; rw [Bool.bne_false]; congr 1; apply propext; constructor <;> intro _ <;> omega)⟩
    · obtain ⟨e1, e2⟩ := cmp_sx hH hev
      exact ⟨_, by simp only [binOp, ne_eq, not_true_eq_false, if_false, Op.intCmp]; rfl, e2 _ (by rw [e1]; rw [Bool.bne_true, ← decide_not]; congr 1; apply propext; constructor <;> intro _ <;> omega)⟩
    · obtain ⟨e1, e2⟩ := cmp_sx hH hev
      exact ⟨_, by simp only [binOp, ne_eq, not_true_eq_false, if_false, Op.intCmp]; rfl, e2 _ (by rw [e1]; rw [Bool.bne_true, ← decide_not]; congr 1; apply propext; constructor <;> intro _ <;> omega)⟩
    · obtain ⟨e1, e2⟩ := eq_sx hH hev
      exact ⟨_, by simp only [binOp, ne_eq, not_true_eq_false, if_false, Op.intCmp]; rfl, e2 _ (by rw [e1]; rw [Bool.bne_false, Bool.eq_iff_iff]; simp only [beq_iff_eq, decide_eq_true_eq]; constructor <;> intro _ <;> omega)⟩
    · obtain ⟨e1, e2⟩ := eq_sx hH hev
      exact ⟨_, by simp only [binOp, ne_eq, not_true_eq_false, if_false, Op.intCmp]; rfl, e2 _ (by rw [e1]; rw [Bool.bne_true, ← decide_not, Bool.eq_iff_iff]; simp only [bne_iff_ne, ne_eq, decide_eq_true_eq]; constructor <;> intro _ <;> omega)⟩
    · cases hev
  · rename_i l n k f c lo hi
    simp only [VR] at hx hy
    obtain ⟨rfl, _, _⟩ := hy
    subst hx
    obtain ⟨hk, hev'⟩ := cnd_inv hev
    clear hev
    have := keq_true hk; subst this
    have hev := hev'
    clear hev'
    refine ⟨.inl ⟨_, _, rfl⟩, ?_⟩
    split at hev <;> try simp only [isub_eq] at hev
    · obtain ⟨e1, e2⟩ := cmp_sx hH hev
      exact ⟨_, by simp only [binOp, ne_eq, not_true_eq_false, if_false, Op.intCmp]; rfl, e2 _ (by rw [e1]; rw [Bool.bne_true, ← decide_not]; congr 1; apply propext; constructor <;> intro _ <;> omega)⟩
    · obtain ⟨e1, e2⟩ := cmp_sx hH hev
      exact ⟨_, by simp only [binOp, ne_eq, not_true_eq_false, if_false, Op.intCmp]; rfl, e2 _ (by rw [e1]; rw [Bool.bne_true, ← decide_not]; congr 1; apply propext; constructor <;> intro _ <;> omega)⟩
    · obtain ⟨e1, e2⟩ := cmp_sx hH hev
      exact ⟨_, by simp only [binOp, ne_eq, not_true_eq_false, if_false, Op.intCmp]; rfl, e2 _ (by rw [e1]; rw [Bool.bne_false]; congr 1; apply propext; constructor <;> intro _ <;> omega)⟩
    · obtain ⟨e1, e2⟩ := cmp_sx hH hev
      exact ⟨_, by simp only [binOp, ne_eq, not_true_eq_false, if_false, Op.intCmp]; rfl, e2 _ (by rw [e1]; rw [Bool.bne_false]; congr 1; apply propext; constructor <;> intro _ <;> omega)⟩
    · obtain ⟨e1, e2⟩ := eq_sx hH hev
      exact ⟨_, by simp only [binOp, ne_eq, not_true_eq_false, if_false, Op.intCmp]; rfl, e2 _ (by rw [e1]; rw [Bool.bne_false, Bool.eq_iff_iff]; simp only [beq_iff_eq, decide_eq_true_eq]; constructor <;> intro _ <;> omega)⟩
    · obtain ⟨e1, e2⟩ := eq_sx hH hev
      exact ⟨_, by simp only [binOp, ne_eq, not_true_eq_false, if_false, Op.intCmp]; rfl, e2 _ (by rw [e1]; rw [Bool.bne_true, ← decide_not, Bool.eq_iff_iff]; simp only [bne_iff_ne, ne_eq, decide_eq_true_eq]; constructor <;> intro _ <;> omega)⟩
    · cases hev
  · rename_i l m
    simp only [VR] at hx hy
    obtain ⟨b1, rfl, h1⟩ := hx
    obtain ⟨b2, rfl, h2⟩ := hy
    exact ⟨.inr ⟨_, rfl⟩, stCmp_sound hH h1 h2 hev⟩
  · rename_i l s
    simp only [VR] at hx hy
    obtain ⟨b1, rfl, h1⟩ := hx
    obtain ⟨b2, rfl, h2⟩ := hy
    subst h2
    exact ⟨.inr ⟨_, rfl⟩, stCmp_sound hH h1 (natAs_sound _) hev⟩
  · rename_i s l
    simp only [VR] at hx hy
    obtain ⟨b1, rfl, h1⟩ := hx
    obtain ⟨b2, rfl, h2⟩ := hy
    subst h1
    exact ⟨.inr ⟨_, rfl⟩, stCmp_sound hH (natAs_sound _) h2 hev⟩
  · obtain ⟨h1, h2⟩ := ibinR_sound (P := P) (w := w) (t := t) hx hy hev
    exact ⟨.inl h1, h2⟩
include hq in
theorem p_ibin {op : BinOp} {t yt : TypeId} {x y : Operand} (hev : xIbin op (q x) (q y) h L = some a) : Gives P ρ w μ ⟨d, .binOp op t x y yt, ty, pos, af, gd⟩ a := by
  have fin : ∀ v, (∃ k m, ρ x = .int k m) → (binOp op t (ρ x) (ρ y)).run P w = .ok v w → VR μ a v → Gives P ρ w μ ⟨d, .binOp op t x y yt, ty, pos, af, gd⟩ a := by
    rintro v ⟨k, m, hx⟩ hr hv
    exact ⟨v, run_bin_plain (by rw [hx]; simp) (by rw [hx]; simp) hr, hv⟩
  have viaR : ibinR op (getO (q x) L) (getO (q y) L) = some a → Gives P ρ w μ ⟨d, .binOp op t x y yt, ty, pos, af, gd⟩ a := by
    intro hr
    obtain ⟨hi, r, hrun, hv⟩ := ibinR_sound (P := P) (w := w) (t := t) (hq x) (hq y) hr
    exact fin r hi hrun hv
  unfold xIbin at hev
  cases hx : getO (q x) L with
  | int k m =>
    rw [hx] at hev
    change asInt (getO (q y) L) _ _ = _ at hev
    cases hy : getO (q y) L with
    | int l n =>
      rw [hy] at hev
      change cnd (isSh op) _ _ = _ at hev
      have ex := q_int hq hx
      have ey := q_int hq hy
      cases hs : isSh op with
      | true =>
        rw [hs] at hev
        obtain ⟨v, hr, hv⟩ := ishift_sound (P := P) (w := w) (l := l) (t := t) (μ := μ) hs hev
        exact fin v ⟨_, _, ex⟩ (by rw [ex, ey]; exact hr) hv
      | false =>
        rw [hs] at hev
        replace hev : cnd (keq k l) (iarith op k m n) none = some a := hev
        replace hev := cnd_inv hev
        have := keq_true hev.1; subst this
        replace hev := hev.2
        obtain ⟨v, hr, hv⟩ := iarith_sound (P := P) (w := w) (t := t) (μ := μ) hs hev
        exact fin v ⟨_, _, ex⟩ (by rw [ex, ey]; exact hr) hv
    | _ => rw [hy] at hev; rw [hx, hy] at viaR; exact viaR hev
  | str s =>
    rw [hx] at hev
    change asStr (getO (q y) L) _ _ = _ at hev
    obtain ⟨s', hy, hev⟩ := asStr_some hev
    obtain ⟨b, ex, hb⟩ := q_str hq hx
    obtain ⟨b', ey, hb'⟩ := q_str hq hy
    subst hb hb'
    obtain ⟨v, hr, hv⟩ := strOp_sound (P := P) (w := w) (t := t) (μ := μ) hev
    exact ⟨v, run_bin_plain (by rw [ex]; simp) (by rw [ex]; simp) (by rw [ex, ey]; exact hr), hv⟩
  | _ => rw [hx] at hev; rw [hx] at viaR; exact viaR hev
omit hE hH hq in
theorem cmpX_sound {μ : Mu} (hF : FkOk) {op : BinOp} {f f' : Key} {c c' : Int} {a : AV} {t : TypeId} {w : World} (hev : cmpX op f c f' c' = some a) :
    ∃ r, (binOp op t (.int .i64 (nz f + c)) (.int .i64 (nz f' + c'))).run P w = .ok r w ∧ VR μ a r := by
  have key : ∀ (b : Bool) (p : Bool), a = .bool b → p = b → VR μ a (.bool p) := by
    rintro b p rfl rfl; simp only [VR]
  unfold cmpX at hev
  split at hev
  · refine ⟨_, by simp only [binOp, ne_eq, not_true_eq_false, if_false, Op.intCmp]; rfl, ?_⟩
    cases h1 : leX f (iadd c 1) f' c' with
    | true => rw [h1] at hev; cases hev; have := leX_sound hF h1; rw [iadd_eq] at this; exact key true _ rfl (decide_eq_true (by omega))
    | false =>
      rw [h1] at hev
      obtain ⟨h2, hev⟩ := cnd_inv (show cnd _ _ none = some a from hev)
      cases hev; have := leX_sound hF h2; exact key false _ rfl (decide_eq_false (by omega))
  · refine ⟨_, by simp only [binOp, ne_eq, not_true_eq_false, if_false, Op.intCmp]; rfl, ?_⟩
    cases h1 : leX f c f' c' with
    | true => rw [h1] at hev; cases hev; have := leX_sound hF h1; exact key true _ rfl (decide_eq_true (by omega))
    | false =>
      rw [h1] at hev
      obtain ⟨h2, hev⟩ := cnd_inv (show cnd _ _ none = some a from hev)
      cases hev; have := leX_sound hF h2; rw [iadd_eq] at this; exact key false _ rfl (decide_eq_false (by omega))
  · refine ⟨_, by simp only [binOp, ne_eq, not_true_eq_false, if_false, Op.intCmp]; rfl, ?_⟩
    cases h1 : leX f' (iadd c' 1) f c with
    | true => rw [h1] at hev; cases hev; have := leX_sound hF h1; rw [iadd_eq] at this; exact key true _ rfl (decide_eq_true (by omega))
    | false =>
      rw [h1] at hev
      obtain ⟨h2, hev⟩ := cnd_inv (show cnd _ _ none = some a from hev)
      cases hev; have := leX_sound hF h2; exact key false _ rfl (decide_eq_false (by omega))
  · refine ⟨_, by simp only [binOp, ne_eq, not_true_eq_false, if_false, Op.intCmp]; rfl, ?_⟩
    cases h1 : leX f' c' f c with
    | true => rw [h1] at hev; cases hev; have := leX_sound hF h1; exact key true _ rfl (decide_eq_true (by omega))
    | false =>
      rw [h1] at hev
      obtain ⟨h2, hev⟩ := cnd_inv (show cnd _ _ none = some a from hev)
      cases hev; have := leX_sound hF h2; rw [iadd_eq] at this; exact key false _ rfl (decide_eq_false (by omega))
  · refine ⟨_, by simp only [binOp, ne_eq, not_true_eq_false, if_false, Op.intCmp]; rfl, ?_⟩
    cases h1 : cnd (leX f c f' c') (leX f' c' f c) false with
    | true =>
      rw [h1] at hev; cases hev
      obtain ⟨h2, h3⟩ := cnd_true_inv h1
      have := leX_sound hF h2; have := leX_sound hF h3
      exact key true _ rfl (by rw [beq_iff_eq]; omega)
    | false =>
      rw [h1] at hev
      obtain ⟨h2, hev⟩ := cnd_inv (show cnd _ _ none = some a from hev)
      cases hev
      refine key false _ rfl (by
        rw [beq_eq_false_iff_ne]
        rcases cnd_or_inv h2 with h2 | h2 <;> (have := leX_sound hF h2; rw [iadd_eq] at this; omega))
  · refine ⟨_, by simp only [binOp, ne_eq, not_true_eq_false, if_false, Op.intCmp]; rfl, ?_⟩
    cases h1 : cnd (leX f c f' c') (leX f' c' f c) false with
    | true =>
      rw [h1] at hev; cases hev
      obtain ⟨h2, h3⟩ := cnd_true_inv h1
      have := leX_sound hF h2; have := leX_sound hF h3
      exact key false _ rfl (by rw [bne_eq_false_iff_eq]; omega)
    | false =>
      rw [h1] at hev
      obtain ⟨h2, hev⟩ := cnd_inv (show cnd _ _ none = some a from hev)
      cases hev
      refine key true _ rfl (by
        rw [bne_iff_ne]
        rcases cnd_or_inv h2 with h2 | h2 <;> (have := leX_sound hF h2; rw [iadd_eq] at this; omega))
  · cases hev
omit hE hH hq in
theorem sxNe_sound (hF : FkOk) {μ : Mu} {k : IntKind} {f f' : Key} {c lo hi c' lo' hi' : Int} {x y : Value} (hr : sxNe k f c lo hi f' c' lo' hi' = true) (hx : VR μ (.sx k f c lo hi) x) (hy : VR μ (.sx k f' c' lo' hi') y) :
    ∃ a b, x = .int k a ∧ y = .int k b ∧ a ≠ b := by
  unfold sxNe at hr
  replace hr := cnd_true_inv hr
  obtain ⟨h1, hr⟩ := hr
  replace hr := cnd_true_inv hr
  obtain ⟨h2, hr⟩ := hr
  rw [ieq_eq] at h1 h2
  obtain rfl := of_decide_eq_true h1
  obtain rfl := of_decide_eq_true h2
  cases hz : cnd (Key.beq f kZ) true (Key.beq f' kZ) with
  | true => rw [hz] at hr; cases hr
  | false =>
    rw [hz] at hr
    replace hr := cnd_true_inv (show cnd _ _ false = true from hr)
    obtain ⟨h3, hr⟩ := hr
    replace hr := cnd_true_inv (show cnd _ _ false = true from hr)
    obtain ⟨h4, hr⟩ := hr
    have hne := findNe_sound hF.rel hr
    have z1 : Key.beq f kZ = false := by cases e : Key.beq f kZ with | false => rfl | true => rw [e] at hz; cases hz
    have z2 : Key.beq f' kZ = false := by rw [z1] at hz; exact hz
    rw [nz_ne z1, nz_ne z2] at hne
    simp only [VR, Int.add_zero] at hx hy
    obtain ⟨rfl, a1, a2⟩ := hx
    obtain ⟨rfl, b1, b2⟩ := hy
    rw [fitK_wrap h3 a1 a2, fitK_wrap h4 b1 b2]
    exact ⟨_, _, rfl, rfl, hne⟩
omit hE hH hq in
theorem eqX_sound (hF : FkOk) {μ : Mu} {a : AV} {w : World} {op : BinOp} {u v : AV} {x y : Value} {t : TypeId} (hx : VR μ u x) (hy : VR μ v y) (hev : eqX op u v = some a) :
    ((∃ k m, x = .int k m) ∨ ∃ s, x = .string s) ∧ ∃ r, (binOp op t x y).run P w = .ok r w ∧ VR μ a r := by
  unfold eqX at hev
  split at hev
  · rename_i k f c lo hi l f' c' lo' hi'
    replace hev := cnd_inv hev
    obtain ⟨h1, hev⟩ := hev
    obtain rfl := keq_true h1
    replace hev := cnd_inv hev
    obtain ⟨hop, hev⟩ := hev
    clear hop
    have key : ∀ b, cnd (Key.beq f f') (cnd (ieq c c') (some true) none) (cnd (sxNe k f c lo hi f' c' lo' hi') (some false) none) = some b → ∃ m n, x = .int k m ∧ y = .int k n ∧ b = decide (m = n) := by
      intro b hb
      cases e : Key.beq f f' with
      | true =>
        rw [e] at hb
        obtain ⟨h2, hb⟩ := cnd_inv (show cnd (ieq c c') (some true) none = some b from hb)
        cases hb
        obtain rfl := Key.beq_eq e
        rw [ieq_eq] at h2
        obtain rfl := of_decide_eq_true h2
        simp only [VR] at hx hy
        exact ⟨_, _, hx.1, hy.1, by simp⟩
      | false =>
        rw [e] at hb
        obtain ⟨h2, hb⟩ := cnd_inv (show cnd (sxNe k f c lo hi f' c' lo' hi') (some false) none = some b from hb)
        cases hb
        obtain ⟨m, n, e1, e2, e3⟩ := sxNe_sound hF h2 hx hy
        exact ⟨m, n, e1, e2, by simp [e3]⟩
    split at hev
    · rename_i hb
      obtain ⟨m, n, rfl, rfl, rfl⟩ := key _ hb
      refine ⟨.inl ⟨_, _, rfl⟩, _, by simp only [binOp, ne_eq, not_true_eq_false, if_false, Op.intArith, Op.intBits, Op.intCmp]; rfl, ?_⟩
      by_cases hd : m = n
      · subst hd; simp only [decide_true] at hev; cases hev; simp [VR]
      · simp only [hd, decide_false] at hev; cases hev; simp [VR, hd]
    · rename_i hb
      obtain ⟨m, n, rfl, rfl, rfl⟩ := key _ hb
      refine ⟨.inl ⟨_, _, rfl⟩, _, by simp only [binOp, ne_eq, not_true_eq_false, if_false, Op.intArith, Op.intBits, Op.intCmp]; rfl, ?_⟩
      by_cases hd : m = n
      · subst hd; simp only [decide_true] at hev; cases hev; simp [VR, bnot_eq]
      · simp only [hd, decide_false] at hev; cases hev; simp [VR, hd, bnot_eq]
    · cases hev
  · cases hev
omit hE hH hq in
theorem i64ish_sound {μ : Mu} {u : AV} {x : Value} (h : i64ish u = true) (hx : VR μ u x) : ∃ n, x = .int .i64 n := by
  unfold i64ish at h
  split at h
  · simp only [VR] at hx; exact ⟨_, hx⟩
  · simp only [VR] at hx; obtain ⟨n, e, _⟩ := hx; exact ⟨n, e⟩
  · simp only [VR] at hx; exact ⟨_, hx.1⟩
  · cases h
omit hE hH hq in
theorem addAny_sound {μ : Mu} {a : AV} {w : World} {op : BinOp} {u v : AV} {x y : Value} {t : TypeId} (hx : VR μ u x) (hy : VR μ v y) (hev : addAny op u v = some a) :
    ((∃ k m, x = .int k m) ∨ ∃ s, x = .string s) ∧ ∃ r, (binOp op t x y).run P w = .ok r w ∧ VR μ a r := by
  unfold addAny at hev
  split at hev
  · replace hev := cnd_inv hev
    obtain ⟨h1, hev⟩ := hev
    replace hev := cnd_inv hev
    obtain ⟨h2, hev⟩ := hev
    obtain ⟨m, rfl⟩ := i64ish_sound h1 hx
    obtain ⟨n, rfl⟩ := i64ish_sound h2 hy
    cases hev
    refine ⟨.inl ⟨_, _, rfl⟩, .int .i64 (IntKind.wrap .i64 (m + n)), by simp only [binOp, ne_eq, not_true_eq_false, if_false, Op.intArith]; rfl, ?_⟩
    simp only [VR]
    refine ⟨_, rfl, ?_⟩
    rw [wrap_i64_eq]
    split <;> omega
  · cases hev
omit hE hH hq in
theorem ibinX0_sound {μ : Mu} {h : Hp} {B : Nat} {a : AV} {w : World} (hH : HR B μ h w) {op : BinOp} {u v : AV} {x y : Value} {t : TypeId} (hx : VR μ u x) (hy : VR μ v y) (hev : ibinX0 h op u v = some a) :
    ((∃ k m, x = .int k m) ∨ ∃ s, x = .string s) ∧ ∃ r, (binOp op t x y).run P w = .ok r w ∧ VR μ a r := by
  unfold ibinX0 at hev
  split at hev
  · obtain ⟨f, c, rfl, hev⟩ := exA_sound hx hev
    obtain ⟨f', c', rfl, hev⟩ := exA_sound hy hev
    exact ⟨.inl ⟨_, _, rfl⟩, cmpX_sound hH.fk hev⟩
  · replace hev := cnd_inv hev
    obtain ⟨h1, hev⟩ := hev
    obtain rfl := Key.beq_eq h1
    simp only [VR] at hx hy
    obtain ⟨b, rfl, e1⟩ := hx
    obtain ⟨b', rfl, e2⟩ := hy
    have hbb : b = b' := by
      cases b; cases b'
      simp only [ByteArray.mk.injEq]
      exact Array.toList_inj.1 (e1.trans e2.symm)
    subst hbb
    refine ⟨.inr ⟨_, rfl⟩, ?_⟩
    split at hev
    · cases hev
      exact ⟨.bool true, by have := strEql (P := P) (w := w) (t := t) (x := b) (y := b); simpa using this, by simp only [VR]⟩
    · cases hev
      exact ⟨.bool false, by have := strNeq (P := P) (w := w) (t := t) (x := b) (y := b); simpa using this, by simp only [VR]⟩
    · cases hev
  · exact ibinS_sound hH hx hy hev
omit hE hH hq in
theorem ibinX_sound {μ : Mu} {h : Hp} {B : Nat} {a : AV} {w : World} (hH : HR B μ h w) {op : BinOp} {u v : AV} {x y : Value} {t : TypeId} (hx : VR μ u x) (hy : VR μ v y) (hev : ibinX h op u v = some a) :
    ((∃ k m, x = .int k m) ∨ ∃ s, x = .string s) ∧ ∃ r, (binOp op t x y).run P w = .ok r w ∧ VR μ a r := by
  have hev : opt (ibinX0 h op u v) (opt (eqX op u v) (addAny op u v) some) some = some a := hev
  cases h0 : ibinX0 h op u v with
  | some b => rw [h0] at hev; cases hev; exact ibinX0_sound hH hx hy h0
  | none =>
    rw [h0] at hev
    have hev : opt (eqX op u v) (addAny op u v) some = some a := hev
    cases h1 : eqX op u v with
    | some b => rw [h1] at hev; cases hev; exact eqX_sound hH.fk hx hy h1
    | none => rw [h1] at hev; exact addAny_sound hx hy hev
omit hE hH hq in
theorem mulX_sound (hF : FkOk) {μ : Mu} {a : AV} {w : World} {op : BinOp} {u v : AV} {x y : Value} {t : TypeId} (hx : VR μ u x) (hy : VR μ v y) (hev : mulX op u v = some a) :
    (∃ k m, x = .int k m) ∧ ∃ r, (binOp op t x y).run P w = .ok r w ∧ VR μ a r := by
  unfold mulX at hev
  split at hev
  · rename_i n f c lo hi
    replace hev := cnd_inv (show cnd (cnd (fitK .i64 lo hi) (ieq c 0) false) (findMul f n Fk.rel) none = some a from hev)
    obtain ⟨h1, hev⟩ := hev
    obtain ⟨h2, h3⟩ := cnd_true_inv h1
    rw [ieq_eq] at h3
    have h3 := of_decide_eq_true h3
    subst h3
    simp only [VR, Int.add_zero] at hx hy
    subst hx
    obtain ⟨rfl, hy1, hy2⟩ := hy
    obtain ⟨k1, k2⟩ := findMul_sound (μ := μ) hF.rel hev
    rw [fitK_wrap (k := .i64) h2 hy1 hy2]
    refine ⟨⟨_, _, rfl⟩, .int .i64 (n * Val.n f), ?_, k1⟩
    have hrun : (binOp .mul t (.int .i64 n) (.int .i64 (Val.n f))).run P w = .ok (.int .i64 (IntKind.wrap .i64 (n * Val.n f))) w := by
      simp only [binOp, ne_eq, not_true_eq_false, if_false, Op.intArith]; rfl
    rw [k2] at hrun
    exact hrun
  · cases hev
include hH hq in
theorem p_ibinM {op : BinOp} {t yt : TypeId} {x y : Operand} (hev : xIbinM op (q x) (q y) h L = some a) : Gives P ρ w μ ⟨d, .binOp op t x y yt, ty, pos, af, gd⟩ a := by
  unfold xIbinM at hev
  cases hx : xIbin op (q x) (q y) h L with
  | some v =>
    rw [hx] at hev
    have hev : v.some = some a := hev
    rw [AV.some_eq] at hev
    cases hev
    exact p_ibin (h := h) hq hx
  | none =>
    rw [hx] at hev
    have fin : (((∃ k m, ρ x = .int k m) ∨ ∃ s, ρ x = .string s) ∧ ∃ r, (binOp op t (ρ x) (ρ y)).run P w = .ok r w ∧ VR μ a r) → Gives P ρ w μ ⟨d, .binOp op t x y yt, ty, pos, af, gd⟩ a := by
      rintro ⟨hi, r, hrun, hv⟩
      have hn : ¬(ρ x = .nilIface ∧ ρ y = .nilIface) ∧ ¬ ∃ c e, ρ x = .agg c ∧ ρ y = .agg e := by
        rcases hi with ⟨k, m, hi⟩ | ⟨s, hi⟩ <;> rw [hi] <;> simp
      exact ⟨r, run_bin_plain hn.1 hn.2 hrun, hv⟩
    have hev : opt (mulX op (getO (q x) L) (getO (q y) L)) (opt (eqX op (getO (q x) L) (getO (q y) L)) (addAny op (getO (q x) L) (getO (q y) L)) AV.some) AV.some = some a := hev
    cases h1 : mulX op (getO (q x) L) (getO (q y) L) with
    | some v =>
      rw [h1] at hev
      have hev : v.some = some a := hev
      rw [AV.some_eq] at hev
      cases hev
      obtain ⟨hi, r⟩ := mulX_sound (P := P) (w := w) hH.fk (t := t) (hq x) (hq y) h1
      exact fin ⟨.inl hi, r⟩
    | none =>
      rw [h1] at hev
      have hev : opt (eqX op (getO (q x) L) (getO (q y) L)) (addAny op (getO (q x) L) (getO (q y) L)) AV.some = some a := hev
      cases h2 : eqX op (getO (q x) L) (getO (q y) L) with
      | some v =>
        rw [h2] at hev
        have hev : v.some = some a := hev
        rw [AV.some_eq] at hev
        cases hev
        exact fin (eqX_sound (P := P) (w := w) hH.fk (t := t) (hq x) (hq y) h2)
      | none =>
        rw [h2] at hev
        exact fin (addAny_sound (P := P) (w := w) (t := t) (hq x) (hq y) hev)
include hH hq in
theorem p_ibinH {op : BinOp} {t yt : TypeId} {x y : Operand} (hev : xIbinH op (q x) (q y) h L = some a) : Gives P ρ w μ ⟨d, .binOp op t x y yt, ty, pos, af, gd⟩ a := by
  unfold xIbinH at hev
  cases hx : xIbin op (q x) (q y) h L with
  | some v =>
    rw [hx] at hev
    have hev : v.some = some a := hev
    rw [AV.some_eq] at hev
    cases hev
    exact p_ibin (h := h) hq hx
  | none =>
    rw [hx] at hev
    obtain ⟨hi, r, hrun, hv⟩ := ibinX_sound (P := P) hH (t := t) (hq x) (hq y) (show ibinX h op (getO (q x) L) (getO (q y) L) = some a from hev)
    have hn : ¬(ρ x = .nilIface ∧ ρ y = .nilIface) ∧ ¬ ∃ c e, ρ x = .agg c ∧ ρ y = .agg e := by
      rcases hi with ⟨k, m, hi⟩ | ⟨s, hi⟩ <;> rw [hi] <;> simp
    exact ⟨r, run_bin_plain hn.1 hn.2 hrun, hv⟩
end
end Go.Ev

namespace Go.Ev
set_option linter.unusedVariables false
set_option linter.unusedSectionVars false
variable [Val] [Fk]
section
variable {E : Env} {P : Program} (hE : EnvOk E P) {B : Nat} {μ : Mu} {h : Hp} {w : World} (hH : HR B μ h w)
  {L : Lo} {ρ : Operand → Value} {q : Operand → Opd} (hq : ∀ x, VR μ (getO (q x) L) (ρ x))
  {d : Option Tmp} {ty : TypeId} {pos : String} {af : Array Edge} {gd : Option (Nat × Bool)} {a : AV}
include hq in
theorem p_un {op : UnOp} {t : TypeId} {x : Operand} (hev : xUn op (q x) h L = some a) : Gives P ρ w μ ⟨d, .unOp op t x, ty, pos, af, gd⟩ a := by
  unfold xUn at hev
  split at hev
  · rename_i k n hx
    rw [mkInt_eq] at hev
    cases hev
    have ex := q_int hq hx
    refine ⟨.int k (k.wrap (0 - n)), run_val (s := Op.unary .neg (ρ x)) ?_, by simp only [VR]; rfl⟩
    rw [ex]; rfl
  · rename_i k n hx
    cases hev
    have ex := q_int hq hx
    refine ⟨_, run_val (s := Op.unary .xor (ρ x)) (v := .int k (k.wrap (BitVec.ofInt k.bits (if k.signed then -1 else k.max) ^^^ BitVec.ofInt k.bits n).toNat)) ?_, by simp only [VR]⟩
    rw [ex]; rfl
  · rename_i b hx
    cases hev
    have ex := q_bool hq hx
    refine ⟨.bool (!b), run_val (s := Op.unary .not (ρ x)) ?_, by simp only [VR, bnot_eq]⟩
    rw [ex]; rfl
  · rename_i hx
    cases hev
    have := hq x
    rw [hx] at this
    simp only [VR] at this
    obtain ⟨b, ex⟩ := this
    refine ⟨.bool (!b), run_val (s := Op.unary .not (ρ x)) ?_, by simp only [VR]; exact ⟨_, rfl⟩⟩
    rw [ex]; rfl
  · rename_i f t' n hx
    cases hev
    have ex := hq x
    rw [hx] at ex
    simp only [VR] at ex
    refine ⟨.bool (!(decide (Val.n f ≤ t') != n)), run_val (s := Op.unary .not (ρ x)) ?_, by simp only [VR, bnot_eq]; cases n <;> cases decide (Val.n f ≤ t') <;> rfl⟩
    rw [ex]; rfl
  · rename_i f t' n hx
    cases hev
    have ex := hq x
    rw [hx] at ex
    simp only [VR] at ex
    refine ⟨.bool (!(decide (Val.n f = t') != n)), run_val (s := Op.unary .not (ρ x)) ?_, by simp only [VR, bnot_eq]; cases n <;> cases decide (Val.n f = t') <;> rfl⟩
    rw [ex]; rfl
  · cases hev
theorem run_builtin {b : Builtin} {xs : Array Operand} {ats : Array TypeId} {v : Value} {s : Sem Value} {w' : World}
    (hb : builtin b ats ty (xs.map fun | .const _ => true | _ => false) (xs.map ρ) = (do pure (Next.value (← s)))) (hs : s.run P w = .ok v w') :
    (execOp ρ ⟨d, .call { callee := .builtin b, args := xs, argTypes := ats }, ty, pos, af, gd⟩).run P w = .ok (.value v) w' := by
  show (do let d ← resolve ρ { callee := .builtin b, args := xs, argTypes := ats } ty; invoke d.target d.args).run P w = _
  have : resolve ρ { callee := .builtin b, args := xs, argTypes := ats } ty = pure { target := .builtin b ats ty (xs.map fun | .const _ => true | _ => false), args := xs.map ρ } := rfl
  rw [this]
  simp only [Sem.run_bind, Sem.run_pure, Result.andThen_ok, invoke]
  show (builtin b ats ty _ _).run P w = _
  rw [hb]
  exact run_val hs
theorem head_args {xs : Array Operand} {x : Operand} {l : List Operand} (hx : xs.toList = x :: l) : (xs.map ρ)[0]? = some (ρ x) := by
  rw [← Array.getElem?_toList]; simp [hx]
theorem head_types {ts : Array TypeId} {t : TypeId} {l : List TypeId} (ht : ts.toList = t :: l) : ts[0]? = some t := by
  rw [← Array.getElem?_toList]; simp [ht]
include hE hq in
theorem p_lenStr {xs : Array Operand} {ats : Array TypeId} {x : Operand} {l : List Operand} {t : TypeId} {ts : List TypeId} (hx : xs.toList = x :: l) (ht : ats.toList = t :: ts)
    (hu : E.und t = some .string) (hev : xLenStr (q x) h L = some a) : Gives P ρ w μ ⟨d, .call { callee := .builtin .len, args := xs, argTypes := ats }, ty, pos, af, gd⟩ a := by
  obtain ⟨s, hs, hev⟩ := asStr_some hev
  rw [natF_eq] at hev
  cases hev
  obtain ⟨b, ex, hb⟩ := q_str hq hs
  refine ⟨goInt b.size, run_builtin rfl (s := Builtin.len_ ats ty (xs.map ρ)) ?_, ?_⟩
  · simp only [Builtin.len_, head_args hx, head_types ht, Sem.run_bind, hE.runUnd hu, Result.andThen_ok, ex]; rfl
  · simp only [VR, ← hb, List.length_map, Array.length_toList]; rfl
include hE hq in
theorem p_lenSl {xs : Array Operand} {ats : Array TypeId} {x : Operand} {l : List Operand} {t el : TypeId} {ts : List TypeId} (hx : xs.toList = x :: l) (ht : ats.toList = t :: ts)
    (hu : E.und t = some (.slice el)) (hev : xLenSl (q x) h L = some a) : Gives P ρ w μ ⟨d, .call { callee := .builtin .len, args := xs, argTypes := ats }, ty, pos, af, gd⟩ a := by
  unfold xLenSl at hev
  have fin : ∀ b n c, ρ x = .slice b n c → a = .int .i64 (.ofNat n) → Gives P ρ w μ ⟨d, .call { callee := .builtin .len, args := xs, argTypes := ats }, ty, pos, af, gd⟩ a := by
    rintro b n c ex rfl
    refine ⟨goInt n, run_builtin rfl (s := Builtin.len_ ats ty (xs.map ρ)) ?_, by simp only [VR]; rfl⟩
    simp only [Builtin.len_, head_args hx, head_types ht, Sem.run_bind, hE.runUnd hu, Result.andThen_ok, ex]; rfl
  cases hs : getO (q x) L with
  | slice f g o n c s e =>
    rw [hs] at hev
    obtain ⟨b, s', m, a', c', hm, ex, _⟩ := q_slice hq hs
    exact fin _ _ _ ex (by cases hev; rfl)
  | slice0 =>
    rw [hs] at hev
    have := hq x; rw [hs] at this; simp only [VR] at this
    exact fin _ _ _ this (by cases hev; rfl)
  | sl lo hi =>
    rw [hs] at hev
    have := hq x; rw [hs] at this; simp only [VR] at this
    obtain ⟨b, n, c, ex, hn0, hn⟩ := this
    cases hev
    refine ⟨goInt n, run_builtin rfl (s := Builtin.len_ ats ty (xs.map ρ)) ?_, by simp only [VR]; exact ⟨n, rfl, by simp; omega, by simp; omega⟩⟩
    simp only [Builtin.len_, head_args hx, head_types ht, Sem.run_bind, hE.runUnd hu, Result.andThen_ok, ex]; rfl
  | nv q0 sl =>
    rw [hs] at hev
    have := hq x; rw [hs] at this; simp only [VR] at this
    cases sl with
    | false => cases hev
    | true =>
      obtain ⟨_, _, hsl⟩ := this
      obtain ⟨b, n, c, ex, hn⟩ := hsl rfl
      cases hev
      refine ⟨goInt n, run_builtin rfl (s := Builtin.len_ ats ty (xs.map ρ)) ?_, by simp only [VR]; exact ⟨n, rfl, by omega, by omega⟩⟩
      simp only [Builtin.len_, head_args hx, head_types ht, Sem.run_bind, hE.runUnd hu, Result.andThen_ok, ex]; rfl
  | _ => rw [hs] at hev; cases hev
include hE in
theorem p_lenArr {xs : Array Operand} {ats : Array TypeId} {x : Operand} {l : List Operand} {t el : TypeId} {n : Nat} {ts : List TypeId} (hx : xs.toList = x :: l) (ht : ats.toList = t :: ts)
    (hu : E.und t = some (.array n el)) (hev : xLenC n h L = some a) : Gives P ρ w μ ⟨d, .call { callee := .builtin .len, args := xs, argTypes := ats }, ty, pos, af, gd⟩ a := by
  cases hev
  refine ⟨goInt n, run_builtin rfl (s := Builtin.len_ ats ty (xs.map ρ)) ?_, by simp only [VR]; rfl⟩
  simp only [Builtin.len_, head_args hx, head_types ht, Sem.run_bind, hE.runUnd hu, Result.andThen_ok]
  rfl
include hE in
theorem p_lenPArr {xs : Array Operand} {ats : Array TypeId} {x : Operand} {l : List Operand} {t t' el : TypeId} {n : Nat} {ts : List TypeId} (hx : xs.toList = x :: l) (ht : ats.toList = t :: ts)
    (hu : E.und t = some (.pointer t')) (hu' : E.und t' = some (.array n el)) (hev : xLenC n h L = some a) : Gives P ρ w μ ⟨d, .call { callee := .builtin .len, args := xs, argTypes := ats }, ty, pos, af, gd⟩ a := by
  cases hev
  refine ⟨goInt n, run_builtin rfl (s := Builtin.len_ ats ty (xs.map ρ)) ?_, by simp only [VR]; rfl⟩
  simp only [Builtin.len_, head_args hx, head_types ht, Sem.run_bind, hE.runUnd hu, hE.runUnd hu', Result.andThen_ok]
  rfl
include hE hq in
theorem p_capSl {xs : Array Operand} {ats : Array TypeId} {x : Operand} {l : List Operand} {t el : TypeId} {ts : List TypeId} (hx : xs.toList = x :: l) (ht : ats.toList = t :: ts)
    (hu : E.und t = some (.slice el)) (hev : xCapSl (q x) h L = some a) : Gives P ρ w μ ⟨d, .call { callee := .builtin .cap, args := xs, argTypes := ats }, ty, pos, af, gd⟩ a := by
  obtain ⟨f, g, o, n, c, s, e, hs, hev⟩ := asSlice_some hev
  obtain ⟨b, s', m, a', c', hm, ex, _, _, he, _⟩ := q_slice hq hs
  obtain ⟨rfl, hev⟩ := cnd_inv hev
  cases hev
  have := he rfl; subst this
  refine ⟨goInt c', run_builtin rfl (s := Builtin.cap_ ats ty (xs.map ρ)) ?_, by simp only [VR]; rfl⟩
  simp only [Builtin.cap_, head_args hx, head_types ht, Sem.run_bind, hE.runUnd hu, Result.andThen_ok, ex]
  rfl
include hq in
theorem p_nilck {x : Operand} (hev : xNilck (q x) h L = some a) : Gives P ρ w μ ⟨d, .nilCheck x, ty, pos, af, gd⟩ a := by
  unfold xNilck at hev
  have hx := hq x
  cases hs : getO (q x) L with
  | ptr f g o =>
    rw [hs] at hev
    cases hev
    obtain ⟨b, s, n, hm, hle, ex⟩ := q_ptr hq hs
    refine ⟨ρ x, ?_, by rw [hs] at hx; exact hx⟩
    show (match ρ x with | .pointer none | .nilIface | .nilFunc => runtimePanic .nilDeref | .func (.method name) first captured => _ | x => pure (.value x) : Sem Next).run P w = _
    rw [ex]; rfl
  | iface t v =>
    rw [hs] at hev
    cases hev
    obtain ⟨y, ex, hy⟩ := q_iface hq hs
    refine ⟨ρ x, ?_, by rw [hs] at hx; exact hx⟩
    show (match ρ x with | .pointer none | .nilIface | .nilFunc => runtimePanic .nilDeref | .func (.method name) first captured => _ | x => pure (.value x) : Sem Next).run P w = _
    rw [ex]; rfl
  | func fn f c =>
    rw [hs] at hev hx
    simp only [VR] at hx
    obtain ⟨F, fs, cs, ex, hF, h1, h2⟩ := hx
    have hn : ∀ nm, F ≠ .method nm := by
      rintro nm rfl
      cases fn with
      | fn f' => cases hF; cases hev
      | yield l => obtain ⟨b, s, n, _, hh⟩ := hF; cases hh
    have ha : a = .func fn f c := by
      cases fn with
      | fn f' => cases f' <;> first | (cases hev; rfl) | cases hev
      | yield l => cases hev; rfl
    subst ha
    refine ⟨ρ x, ?_, by simp only [VR]; exact ⟨F, fs, cs, ex, hF, h1, h2⟩⟩
    show (match ρ x with | .pointer none | .nilIface | .nilFunc => runtimePanic .nilDeref | .func (.method name) first captured => _ | x => pure (.value x) : Sem Next).run P w = _
    rw [ex]
    cases F <;> first | rfl | exact absurd rfl (hn _)
  | _ => rw [hs] at hev; cases hev
end
end Go.Ev

namespace Go.Ev
set_option linter.unusedVariables false
set_option linter.unusedSectionVars false
variable [Val] [Fk]
theorem bnd_some {R : Type} {x : Option Opd} {L : Lo} {dflt : Nat} {k : Nat → Option R} {r : R} (hh : bnd x L dflt none k = some r) :
    (x = none ∧ k dflt = some r) ∨ ∃ o kk n, x = some o ∧ getO o L = .int kk (.ofNat n) ∧ k n = some r := by
  cases x with
  | none => exact .inl ⟨rfl, hh⟩
  | some o =>
    obtain ⟨kk, n, h1, h2⟩ := asInt_some (show asInt (getO o L) none _ = some r from hh)
    rw [icase_eq] at h2
    cases n with
    | ofNat i => exact .inr ⟨o, kk, i, rfl, h1, h2⟩
    | negSucc i => cases h2
section
variable {E : Env} {P : Program} (hE : EnvOk E P) {B : Nat} {μ : Mu} {h : Hp} {w : World} (hH : HR B μ h w)
  {L : Lo} {ρ : Operand → Value} {q : Operand → Opd} (hq : ∀ x, VR μ (getO (q x) L) (ρ x))
  {d : Option Tmp} {ty : TypeId} {pos : String} {af : Array Edge} {gd : Option (Nat × Bool)} {a : AV}
def Bd (ρ : Operand → Value) (x : Option Operand) (dflt n : Nat) : Prop := (x = none ∧ n = dflt) ∨ ∃ o k, x = some o ∧ ρ o = .int k (Int.ofNat n)
include hq in
theorem bnd_q {R : Type} {x : Option Operand} {dflt : Nat} {k : Nat → Option R} {r : R} (hh : bnd (x.map q) L dflt none k = some r) : ∃ n, Bd ρ x dflt n ∧ k n = some r := by
  rcases bnd_some hh with ⟨h1, h2⟩ | ⟨o, kk, n, h1, h2, h3⟩
  · cases x with
    | none => exact ⟨dflt, .inl ⟨rfl, rfl⟩, h2⟩
    | some o => cases h1
  · cases x with
    | none => cases h1
    | some o' =>
      simp only [Option.map_some, Option.some.injEq] at h1
      subst h1
      exact ⟨n, .inr ⟨o', kk, rfl, q_int hq h2⟩, h3⟩
theorem run_bound {k : IntKind} {n y : Nat} {c : BoundsCode} (hn : n ≤ y) : (Instr.sliceBound (.int k (n : Int)) y c).run P w = .ok n w := by
  simp only [Instr.sliceBound, asIntOf, Sem.run_bind, Sem.run_pure, Result.andThen_ok, Sem.run_ite]
  rw [if_pos ⟨by simp, by simpa using hn⟩]
  rfl
theorem run_bounds {isSl : Bool} {len cap l hh m : Nat} {lo hi mx : Option Operand} (h1 : Bd ρ lo 0 l) (h2 : Bd ρ hi len hh) (h3 : Bd ρ mx cap m)
    (hb1 : l ≤ hh) (hb2 : hh ≤ m) (hb3 : m ≤ cap) (hn : ¬ (hi = none ∧ mx.isSome = true)) :
    (Instr.sliceBounds isSl len cap (lo.map ρ) (hi.map ρ) (mx.map ρ)).run P w = .ok (l, hh, m) w := by
  rcases h3 with ⟨rfl, rfl⟩ | ⟨o3, k3, rfl, e3⟩
  · rcases h2 with ⟨rfl, rfl⟩ | ⟨o2, k2, rfl, e2⟩
    · rcases h1 with ⟨rfl, rfl⟩ | ⟨o1, k1, rfl, e1⟩
      · simp [Instr.sliceBounds]
      · simp [Instr.sliceBounds, e1, run_bound hb1]
    · rcases h1 with ⟨rfl, rfl⟩ | ⟨o1, k1, rfl, e1⟩
      · simp [Instr.sliceBounds, e2, run_bound hb2]
      · simp [Instr.sliceBounds, e1, e2, run_bound hb1, run_bound hb2]
  · rcases h2 with ⟨rfl, rfl⟩ | ⟨o2, k2, rfl, e2⟩
    · exact absurd ⟨rfl, rfl⟩ hn
    · rcases h1 with ⟨rfl, rfl⟩ | ⟨o1, k1, rfl, e1⟩
      · simp [Instr.sliceBounds, e2, e3, run_bound hb2, run_bound hb3]
      · simp [Instr.sliceBounds, e1, e2, e3, run_bound hb1, run_bound hb2, run_bound hb3]
include hE hq in
theorem p_sliceStr {t : TypeId} {x : Operand} {lo hi : Option Operand} (hu : E.und t = some .string) (hev : xSliceStr (q x) (lo.map q) (hi.map q) h L = some a) :
    Gives P ρ w μ ⟨d, .slice t x lo hi none, ty, pos, af, gd⟩ a := by
  obtain ⟨s, hs, hev⟩ := asStr_some hev
  obtain ⟨l, h1, hev⟩ := bnd_q hq hev
  obtain ⟨hh, h2, hev⟩ := bnd_q hq hev
  obtain ⟨hb2, hev⟩ := cnd_inv hev
  obtain ⟨hb1, hev⟩ := cnd_inv hev
  cases hev
  obtain ⟨b, ex, hb⟩ := q_str hq hs
  have l1 := Nat.le_of_ble_eq_true hb1
  have l2 := Nat.le_of_ble_eq_true hb2
  have hsz : s.length = b.size := by rw [← hb]; simp
  rw [hsz] at h2 l2
  refine ⟨.string (b.extract l hh), run_val (s := Instr.sliceAt t (ρ x) (lo.map ρ) (hi.map ρ) none) ?_, ?_⟩
  · have hr := run_bounds (P := P) (w := w) (isSl := false) (mx := none) h1 h2 (.inl ⟨rfl, rfl⟩) l1 l2 (Nat.le_refl _) (by simp)
    simp only [Option.map_none] at hr
    rw [ex]
    simp only [Instr.sliceAt, Sem.run_bind, hE.runUnd hu, Result.andThen_ok, Instr.slice, Option.isSome_none, Bool.false_eq_true, if_false, hr, Sem.run_pure]
  · simp only [VR]
    refine ⟨_, rfl, ?_⟩
    rw [← hb]
    simp [List.map_take, List.map_drop, List.take_drop]
    rw [show l + (hh - l) = hh from by omega]
theorem cutSl_sound {f : Key} {g o len cap sz : Nat} {ex full : Bool} {l hh m : Nat} {b s n x c mc : Nat} (hev : cutSl f g o len cap sz ex l hh m full = some a)
    (hm : μ f g = some (b, s, n)) (hcap : cap ≤ c) (hex : ex = true → c = cap) (hpl : (s ≤ o ∧ x = o - s ∧ x + c * sz ≤ n) ∨ c = 0)
    (hmc : mc = if full then m else c) :
    l ≤ hh ∧ hh ≤ m ∧ m ≤ cap ∧ VR μ a (.slice (if mc = l then some ⟨b, x, none⟩ else some ((⟨b, x, none⟩ : Addr).add (l * sz))) (hh - l) (mc - l)) := by
  obtain ⟨h1, hev⟩ := cnd_inv hev
  obtain ⟨h2, hev⟩ := cnd_inv hev
  obtain ⟨h3, hev⟩ := cnd_inv hev
  have l1 := Nat.le_of_ble_eq_true h1
  have l2 := Nat.le_of_ble_eq_true h2
  have l3 := Nat.le_of_ble_eq_true h3
  refine ⟨l1, l2, l3, ?_⟩
  have hadd : (⟨b, x, none⟩ : Addr).add (l * sz) = ⟨b, x + l * sz, none⟩ := by
    unfold Addr.add
    split
    · rename_i h0; rw [h0]; rfl
    · rfl
  rw [hadd]
  have hmcm : m ≤ mc ∧ mc ≤ c := by subst hmc; split <;> omega
  have place : ∀ (p : Nat), (if mc = l then some (⟨b, x, none⟩ : Addr) else some ⟨b, x + l * sz, none⟩) = some ⟨b, (if mc = l then x else x + l * sz), none⟩ := by
    intro _; split <;> rfl
  rw [place 0]
  have main : ∀ (cp : Nat) (e : Bool), a = .slice f g (Nat.add o (Nat.mul l sz)) (Nat.sub hh l) cp sz e → hh - l ≤ cp → cp ≤ mc - l → (e = true → mc - l = cp) →
      VR μ a (.slice (some ⟨b, (if mc = l then x else x + l * sz), none⟩) (hh - l) (mc - l)) := by
    rintro cp e rfl p1 p2 p3
    simp only [VR]
    refine ⟨b, s, n, _, mc - l, hm, rfl, p1, p2, p3, ?_⟩
    by_cases hml : mc = l
    · right; exact ⟨show hh - l = 0 by omega, by omega⟩
    · rcases hpl with ⟨q1, q2, q3⟩ | q
      · left
        rw [if_neg hml]
        refine ⟨by show s ≤ o + l * sz; omega, by show _ = o + l * sz - s; omega, ?_⟩
        have : l * sz + (mc - l) * sz = mc * sz := by rw [← Nat.add_mul]; congr 1; omega
        have := Nat.mul_le_mul_right sz hmcm.2
        omega
      · omega
  cases full with
  | true =>
    have ha : a = .slice f g (Nat.add o (Nat.mul l sz)) (Nat.sub hh l) (Nat.sub m l) sz true := by
      have : some _ = some a := hev
      exact (Option.some.inj this).symm
    have hmc' : mc = m := by simpa using hmc
    exact main (m - l) true ha (by omega) (by omega) (fun _ => by omega)
  | false =>
    have ha : a = .slice f g (Nat.add o (Nat.mul l sz)) (Nat.sub hh l) (Nat.sub cap l) sz ex := by
      have : some _ = some a := hev
      exact (Option.some.inj this).symm
    have hmc' : mc = c := by simpa using hmc
    exact main (cap - l) ex ha (by omega) (by omega) (fun he => by have := hex he; omega)
include hE hq in
theorem p_sliceSl {t el : TypeId} {n : Nat} {x : Operand} {lo hi mx : Option Operand} (hu : E.und t = some (.slice el)) (hsz : E.size el = some n) (hn : ¬ (hi = none ∧ mx.isSome = true))
    (hev : xSliceSl n (q x) (lo.map q) (hi.map q) (mx.map q) h L = some a) : Gives P ρ w μ ⟨d, .slice t x lo hi mx, ty, pos, af, gd⟩ a := by
  unfold xSliceSl at hev
  cases hs : getO (q x) L with
  | slice f g o len cap sz ex =>
    rw [hs] at hev
    replace hev := cnd_inv (show cnd (Nat.beq n sz) _ none = some a from hev)
    have hnz : n = sz := Nat.eq_of_beq_eq_true hev.1
    subst hnz
    obtain ⟨l, b1, hev⟩ := bnd_q hq hev.2
    obtain ⟨hh, b2, hev⟩ := bnd_q hq hev
    obtain ⟨m, b3, hev⟩ := bnd_q hq hev
    obtain ⟨b, s, k, x0, c, hm, ex', hl, hc, he, hp⟩ := q_slice hq hs
    have hfull : (mx.map q).isSome = mx.isSome := by cases mx <;> rfl
    rw [hfull] at hev
    obtain ⟨c1, c2, c3, hv⟩ := cutSl_sound (mc := if mx.isSome then m else c) hev hm hc he (hp.imp id And.right) rfl
    refine ⟨_, run_val (s := Instr.sliceAt t (ρ x) (lo.map ρ) (hi.map ρ) (mx.map ρ)) ?_, hv⟩
    have b3' : Bd ρ mx c (if mx.isSome then m else c) := by
      rcases b3 with ⟨rfl, rfl⟩ | ⟨o3, k3, rfl, e3⟩
      · exact .inl ⟨rfl, rfl⟩
      · exact .inr ⟨o3, k3, rfl, e3⟩
    have hmle : hh ≤ (if mx.isSome then m else c) ∧ (if mx.isSome then m else c) ≤ c := by split <;> omega
    have hr := run_bounds (P := P) (w := w) (isSl := true) b1 b2 b3' c1 hmle.1 hmle.2 hn
    rw [ex']
    simp only [Instr.sliceAt, Sem.run_bind, hE.runUnd hu, Result.andThen_ok, Instr.slice, hr, hE.runSize hsz, Sem.run_pure]
    congr 2
  | slice0 =>
    rw [hs] at hev
    replace hev : bnd (lo.map q) L 0 none (fun l => bnd (hi.map q) L 0 none fun hh => bnd (mx.map q) L 0 none fun m => cnd (Nat.beq (l + hh + m) 0) (some .slice0) none) = some a := hev
    obtain ⟨l, b1, hev⟩ := bnd_q hq hev
    obtain ⟨hh, b2, hev⟩ := bnd_q hq hev
    obtain ⟨m, b3, hev⟩ := bnd_q hq hev
    obtain ⟨h0, hev⟩ := cnd_inv hev
    have z := Nat.eq_of_beq_eq_true h0
    have z1 : l = 0 := by omega
    have z2 : hh = 0 := by omega
    have z3 : m = 0 := by omega
    subst z1 z2 z3
    cases hev
    have ex := hq x
    rw [hs] at ex
    simp only [VR] at ex
    have hr := run_bounds (P := P) (w := w) (isSl := true) b1 b2 b3 (Nat.le_refl _) (Nat.le_refl _) (Nat.le_refl _) hn
    refine ⟨.slice none 0 0, run_val (s := Instr.sliceAt t (ρ x) (lo.map ρ) (hi.map ρ) (mx.map ρ)) ?_, by simp only [VR]⟩
    rw [ex]
    simp only [Instr.sliceAt, Sem.run_bind, hE.runUnd hu, Result.andThen_ok, Instr.slice, hr, hE.runSize hsz, Sem.run_pure]
    rfl
  | _ => rw [hs] at hev; cases hev
end
end Go.Ev

namespace Go.Ev
set_option linter.unusedVariables false
set_option linter.unusedSectionVars false
variable [Val] [Fk]
section
variable {E : Env} {P : Program} (hE : EnvOk E P) {B : Nat} {μ : Mu} {h : Hp} {w : World} (hH : HR B μ h w)
  {L : Lo} {ρ : Operand → Value} {q : Operand → Opd} (hq : ∀ x, VR μ (getO (q x) L) (ρ x))
  {d : Option Tmp} {ty : TypeId} {pos : String} {af : Array Edge} {gd : Option (Nat × Bool)} {a : AV}
include hq in
theorem idx_q {R : Type} {ix : Operand} {k : Nat → Option R} {r : R} (hh : idx (q ix) L none k = some r) : ∃ kk i, ρ ix = .int kk (i : Nat) ∧ k i = some r := by
  obtain ⟨kk, i, h1, h2⟩ := idx_some hh
  exact ⟨kk, i, q_int hq h1, h2⟩
theorem add_zero_spot (b x n : Nat) : (⟨b, x, none⟩ : Addr).add n = ⟨b, x + n, none⟩ := by
  unfold Addr.add
  split
  · rename_i h0; rw [h0]; rfl
  · rfl
include hE hq in
theorem p_idxSl {t el : TypeId} {n : Nat} {x ix : Operand} (hu : E.und t = some (.slice el)) (hsz : E.size el = some n) (hev : xIdxSl n (q x) (q ix) h L = some a) :
    Gives P ρ w μ ⟨d, .indexAddr t x ix, ty, pos, af, gd⟩ a := by
  obtain ⟨f, g, o, len, cap, sz, ex, hs, hev⟩ := asSlice_some hev
  obtain ⟨kk, i, ei, hev⟩ := idx_q hq hev
  obtain ⟨hc, hev⟩ := cnd_inv hev
  have hnz : n = sz := by
    cases hb : Nat.beq n sz with
    | true => exact Nat.eq_of_beq_eq_true hb
    | false => rw [hb] at hc; cases hc
  subst hnz
  have hlt : i < len := by
    cases hb : Nat.blt i len with
    | true => simpa using hb
    | false => rw [hb] at hc; cases hh : Nat.beq n n <;> rw [hh] at hc <;> cases hc
  rw [natF_eq] at hev
  cases hev
  obtain ⟨b, s, k, x0, c, hm, ex', hl, hcp, he, hp⟩ := q_slice hq hs
  have hp' : s ≤ o ∧ x0 = o - s := by
    rcases hp with ⟨p1, p2, p3⟩ | ⟨p1, p2⟩
    · exact ⟨p1, p2⟩
    · omega
  refine ⟨.pointer (some ⟨b, o + i * n - s, none⟩), run_val (s := Instr.indexAt t (ρ x) (ρ ix)) ?_, ?_⟩
  · rw [ex', ei]
    simp only [Instr.indexAt, asIntOf, Sem.run_bind, Sem.run_pure, Result.andThen_ok, hE.runUnd hu, hE.runSize hsz, Sem.run_ite]
    rw [if_pos ⟨by omega, by omega⟩]
    simp only [Sem.run_bind, Result.andThen_ok, Sem.run_pure, hE.runSize hsz, add_zero_spot, Int.toNat_natCast]
    rw [hp'.2, show o - s + i * n = o + i * n - s from by omega]
  · simp only [VR]; exact ⟨b, s, k, hm, by show s ≤ o + i * n; omega, rfl⟩
include hE hq in
theorem p_idxArr {t el : TypeId} {n sz : Nat} {x ix : Operand} (hu : E.und t = some (.array n el)) (hsz : E.size el = some sz) (hev : xIdxArr n sz (q x) (q ix) h L = some a) :
    Gives P ρ w μ ⟨d, .indexAddr t x ix, ty, pos, af, gd⟩ a := by
  obtain ⟨f, g, o, hs, hev⟩ := asPtr_some hev
  obtain ⟨kk, i, ei, hev⟩ := idx_q hq hev
  obtain ⟨hc, hev⟩ := cnd_inv hev
  have hlt : i < n := by simpa using hc
  rw [natF_eq] at hev
  cases hev
  obtain ⟨b, s, k, hm, hle, ex'⟩ := q_ptr hq hs
  refine ⟨.pointer (some ⟨b, o + i * sz - s, none⟩), run_val (s := Instr.indexAt t (ρ x) (ρ ix)) ?_, ?_⟩
  · rw [ex', ei]
    simp only [Instr.indexAt, asIntOf, Instr.sureAddr, Sem.run_bind, Sem.run_pure, Result.andThen_ok, hE.runUnd hu, hE.runSize hsz, Sem.run_ite]
    rw [if_pos ⟨by omega, by omega⟩]
    simp only [Sem.run_bind, Result.andThen_ok, Sem.run_pure, hE.runSize hsz, add_zero_spot, Int.toNat_natCast]
    rw [show o - s + i * sz = o + i * sz - s from by omega]
  · simp only [VR]; exact ⟨b, s, k, hm, by show s ≤ o + i * sz; omega, rfl⟩
theorem nthN_eq {R : Type} (k : Nat → Option R) : ∀ (l : List Nat) (i : Nat), nthN none k l i = match l[i]? with | some b => k b | none => none
  | [], i => by simp [nthN]
  | b :: l, 0 => rfl
  | b :: l, i + 1 => by show nthN none k l i = _; rw [nthN_eq k l i]; rfl
include hE hq in
theorem p_idxStr {t : TypeId} {x ix : Operand} (hu : E.und t = some .string) (hev : xIdxStr (q x) (q ix) h L = some a) :
    Gives P ρ w μ ⟨d, .index t x ix, ty, pos, af, gd⟩ a := by
  obtain ⟨s, hs, hev⟩ := asStr_some hev
  obtain ⟨kk, i, ei, hev⟩ := idx_q hq hev
  rw [nthN_eq] at hev
  obtain ⟨b, ex', hb⟩ := q_str hq hs
  split at hev
  · rename_i c hc
    cases hev
    rw [← hb] at hc
    have hlt : i < b.size := by
      rcases Nat.lt_or_ge i b.size with h' | h'
      · exact h'
      · rw [List.getElem?_eq_none (by simpa using h')] at hc; cases hc
    refine ⟨.int .u8 (b[i]'hlt).toNat, run_val (s := Instr.index t (ρ x) (ρ ix)) ?_, ?_⟩
    · rw [ex', ei]
      rw [run_index_string w t b kk i (hE.und hu)]
      rw [dif_pos ⟨by omega, by omega⟩]
      simp
    · simp only [VR]
      rw [List.getElem?_map] at hc
      have : b.data.toList[i]? = some b[i] := by
        rw [Array.getElem?_toList]
        exact Array.getElem?_eq_getElem hlt
      rw [this] at hc
      simp at hc
      rw [← hc]; rfl
  · cases hev
theorem cut_sound {agg : Bool} {n off : Nat} {t : TypeId} {ds : TypeDesc} {l : List AV} {cs : Array Value} (hu : E.und t = some ds) (hsz : E.size t = some n) (hag : isAggT ds = agg)
    (hE : EnvOk E P) (hl : VRs μ l cs.toList) (hev : cutA agg n l off = some a) : ∃ v, (part t cs off).run P w = .ok v w ∧ VR μ a v := by
  cases agg with
  | true =>
    cases hev
    refine ⟨.agg (cs.extract off (off + n)), ?_, ?_⟩
    · simp only [part, Sem.run_bind, hE.runAgg hu, hag, Result.andThen_ok, if_true, hE.runSize hsz, Sem.run_pure]
    · simp only [VR]
      refine ⟨_, rfl, ?_⟩
      rw [Array.toList_extract, List.extract_eq_take_drop, show off + n - off = n from by omega]
      exact (hl.drop off).take n
  | false =>
    have hev : l[off]? = some a := hev
    obtain ⟨v, hv, hr⟩ := hl.get hev
    refine ⟨v, ?_, hr⟩
    rw [Array.getElem?_toList] at hv
    simp only [part, Sem.run_bind, hE.runAgg hu, hag, Result.andThen_ok, Bool.false_eq_true, if_false, hv]
    rfl
include hE hq in
theorem p_idxAgg {t el : TypeId} {n sz : Nat} {agg : Bool} {x ix : Operand} (hu : E.und t = some (.array n el)) (hsz : E.szA el = some (sz, agg)) (hev : xIdxAgg n sz agg (q x) (q ix) h L = some a) :
    Gives P ρ w μ ⟨d, .index t x ix, ty, pos, af, gd⟩ a := by
  obtain ⟨l, hs, hev⟩ := asAgg_some hev
  obtain ⟨kk, i, ei, hev⟩ := idx_q hq hev
  obtain ⟨hc, hev⟩ := cnd_inv hev
  have hlt : i < n := by simpa using hc
  obtain ⟨cs, ex', hl⟩ := q_agg hq hs
  obtain ⟨ds, h1, h2, h3⟩ := szA_some hsz
  obtain ⟨v, hv, hr⟩ := cut_sound (w := w) h1 h2 h3 hE hl hev
  refine ⟨v, run_val (s := Instr.index t (ρ x) (ρ ix)) ?_, hr⟩
  rw [ex', ei]
  simp only [Instr.index, asIntOf, Sem.run_bind, Sem.run_pure, Result.andThen_ok, hE.runUnd hu, Sem.run_ite]
  rw [if_pos ⟨by omega, by omega⟩]
  simp only [Sem.run_bind, hE.runSize h2, Result.andThen_ok, Int.toNat_natCast]
  exact hv
include hE hq in
theorem p_field {t : TypeId} {i n : Nat} {agg : Bool} {x : Operand} {fs : List Field} {fd : Field} (ht : fieldsOf E t = some fs) (hf : fs[i]? = some fd) (hsz : E.szA fd.type = some (n, agg))
    (hev : xField fd.offset n agg (q x) h L = some a) : Gives P ρ w μ ⟨d, .field t x i, ty, pos, af, gd⟩ a := by
  obtain ⟨l, hs, hev⟩ := asAgg_some hev
  obtain ⟨cs, ex', hl⟩ := q_agg hq hs
  obtain ⟨ds, h1, h2, h3⟩ := szA_some hsz
  obtain ⟨v, hv, hr⟩ := cut_sound (w := w) h1 h2 h3 hE hl hev
  unfold fieldsOf at ht
  split at ht
  · rename_i fa hu
    simp only [Option.some.injEq] at ht
    subst ht
    have hfa : fa[i]? = some fd := by rw [← Array.getElem?_toList]; exact hf
    refine ⟨v, run_val (s := Instr.field t (ρ x) i) ?_, hr⟩
    rw [ex']
    simp only [Instr.field, Sem.run_bind, hE.runUnd hu, Result.andThen_ok, hfa, Go.asAgg, Sem.run_pure]
    exact hv
  · cases ht
end
end Go.Ev

namespace Go.Ev
set_option linter.unusedVariables false
set_option linter.unusedSectionVars false
set_option linter.unusedSimpArgs false
variable [Val] [Fk]
section
variable {E : Env} {P : Program} (hE : EnvOk E P) {B : Nat} {μ : Mu} {h : Hp} {w : World} (hH : HR B μ h w)
  {L : Lo} {ρ : Operand → Value} {q : Operand → Opd} (hq : ∀ x, VR μ (getO (q x) L) (ρ x))
  {d : Option Tmp} {ty : TypeId} {pos : String} {af : Array Edge} {gd : Option (Nat × Bool)} {a : AV}
theorem cell_lt {b x n : Nat} {v : Value} {cs : Array Value} {e : TypeId} {fz : Nat × Nat} (hb : w.heap[b]? = some (.cells cs e fz)) (hn : cs.size = n) (hc : w.cell? ⟨b, x, none⟩ = some v) : x < n := by
  rw [cell?_of_block hb] at hc
  rcases Nat.lt_or_ge x cs.size with h' | h'
  · omega
  · simp [Array.getElem?_eq_none h'] at hc
include hH in
theorem arrThere_sound {f : Key} {g o n sz b s k : Nat} (hm : μ f g = some (b, s, k)) (hs : s ≤ o) (ht : arrThere h f g o n sz = true) : n = 0 ∨ o - s + n * sz ≤ k := by
  by_cases hn : n = 0
  · exact .inl hn
  right
  unfold arrThere at ht
  have h1 : Nat.beq n 0 = false := by rw [Bool.eq_false_iff]; intro hh; exact hn (Nat.eq_of_beq_eq_true hh)
  rw [h1] at ht
  by_cases hz : sz = 0
  · subst hz; cases ht
  have h2 : Nat.beq sz 0 = false := by rw [Bool.eq_false_iff]; intro hh; exact hz (Nat.eq_of_beq_eq_true hh)
  rw [h2] at ht
  cases hg : getCell h f g (Nat.sub (Nat.add o (Nat.mul n sz)) 1) with
  | none => rw [hg] at ht; cases ht
  | some a' =>
    have hpos : 0 < n * sz := Nat.mul_pos (by omega) (by omega)
    obtain ⟨v, hv, _⟩ := getCell_sound hH hm (by show s ≤ o + n * sz - 1; omega) hg
    obtain ⟨ro, gen, z, dp, ext, c, ho, _⟩ := asCells_some hg
    obtain ⟨_, _, hb⟩ := hH.cells ho
    obtain ⟨_, _, cs, e, fz, hheap, hfz, hsz, _⟩ := hb g b s k hm
    have := cell_lt hheap hsz hv
    have : o + n * sz - 1 - s < k := this
    omega
theorem p_arr {t el : TypeId} {n sz : Nat} {x : Operand} {lo hi mx : Option Operand} {v : Value} {b x0 l hh m mc : Nat} (hE : EnvOk E P)
    (hu : E.und t = some (.array n el) ∨ ∃ ar, E.und t = some (.pointer ar) ∧ E.und ar = some (.array n el)) (hsz : E.size el = some sz)
    (ex : ρ x = .pointer (some ⟨b, x0, none⟩)) (hr : (Instr.sliceBounds false n n (lo.map ρ) (hi.map ρ) (mx.map ρ)).run P w = .ok (l, hh, mc) w) :
    (Instr.sliceAt t (ρ x) (lo.map ρ) (hi.map ρ) (mx.map ρ)).run P w = .ok (.slice (if mc = l then some ⟨b, x0, none⟩ else some ((⟨b, x0, none⟩ : Addr).add (l * sz))) (hh - l) (mc - l)) w := by
  have hv : ∀ (c : Prop) [Decidable c] (u v : Addr), (some (if c then u else v) : Option Addr) = if c then some u else some v := by intro c _ u v; split <;> rfl
  rcases hu with hu | ⟨ar, hu, hu2⟩
  · rw [ex]
    simp only [Instr.sliceAt, Sem.run_bind, hE.runUnd hu, Result.andThen_ok, Instr.sureAddr, Sem.run_pure, hr, hE.runSize hsz, hv]
  · rw [ex]
    simp only [Instr.sliceAt, Instr.slice, Sem.run_bind, hE.runUnd hu, hE.runUnd hu2, Result.andThen_ok, asAddr, Sem.run_pure, hr, hE.runSize hsz, hv]
include hE hH hq in
theorem p_sliceArr {t el : TypeId} {n sz : Nat} {x : Operand} {lo hi mx : Option Operand}
    (hu : E.und t = some (.array n el) ∨ ∃ ar, E.und t = some (.pointer ar) ∧ E.und ar = some (.array n el)) (hsz : E.size el = some sz) (hn : ¬ (hi = none ∧ mx.isSome = true))
    (hev : xSliceArr n sz (q x) (lo.map q) (hi.map q) (mx.map q) h L = some a) : Gives P ρ w μ ⟨d, .slice t x lo hi mx, ty, pos, af, gd⟩ a := by
  obtain ⟨f, g, o, hs, hev⟩ := asPtr_some hev
  obtain ⟨hth, hev⟩ := cnd_inv hev
  obtain ⟨l, b1, hev⟩ := bnd_q hq hev
  obtain ⟨hh, b2, hev⟩ := bnd_q hq hev
  obtain ⟨m, b3, hev⟩ := bnd_q hq hev
  obtain ⟨b, s, k, hm, hle, ex⟩ := q_ptr hq hs
  have hfull : (mx.map q).isSome = mx.isSome := by cases mx <;> rfl
  rw [hfull] at hev
  have hp : (s ≤ o ∧ o - s = o - s ∧ o - s + n * sz ≤ k) ∨ n = 0 := by
    rcases arrThere_sound hH hm hle hth with h0 | h0
    · exact .inr h0
    · exact .inl ⟨hle, rfl, h0⟩
  obtain ⟨c1, c2, c3, hv⟩ := cutSl_sound (mc := if mx.isSome then m else n) hev hm (Nat.le_refl _) (fun _ => rfl) hp rfl
  have b3' : Bd ρ mx n (if mx.isSome then m else n) := by
    rcases b3 with ⟨rfl, rfl⟩ | ⟨o3, k3, rfl, e3⟩
    · exact .inl ⟨rfl, rfl⟩
    · exact .inr ⟨o3, k3, rfl, e3⟩
  have hmle : hh ≤ (if mx.isSome then m else n) ∧ (if mx.isSome then m else n) ≤ n := by split <;> omega
  have hr := run_bounds (P := P) (w := w) (isSl := false) b1 b2 b3' c1 hmle.1 hmle.2 hn
  exact ⟨_, run_val (s := Instr.sliceAt t (ρ x) (lo.map ρ) (hi.map ρ) (mx.map ρ)) (p_arr hE (v := .nilFunc) (m := m) hu hsz ex hr), hv⟩
include hH in
theorem p_waits {g : Nat} {b s n : Nat} (hev : xWaits (Key.ofNat g) h L = some a) (hm : μ (Key.ofNat g) 0 = some (g, s, n)) : Gives P ρ w μ ⟨d, .waits g, ty, pos, af, gd⟩ a := by
  obtain ⟨ro, gen, sz, dp, ext, c, ho, hev⟩ := asCells_some hev
  cases hev
  obtain ⟨_, _, hb⟩ := hH.cells ho
  obtain ⟨_, _, cs, e, fz, hheap, _, hsz, _⟩ := hb 0 g s n hm
  refine ⟨.bool false, run_val (s := Instr.waits g) ?_, by simp only [VR]⟩
  simp [Instr.waits, World.shape?, hheap]
end
end Go.Ev

namespace Go.Ev
set_option linter.unusedVariables false
set_option linter.unusedSectionVars false
set_option linter.unusedSimpArgs false
variable [Val] [Fk]
def Plain (w : World) (b : Nat) : Prop :=
  ∃ o, w.heap[b]? = some o ∧ (match o with
    | .cells _ _ fz => fz = (0, 0)
    | .view .. => False
    | .number .. => False
    | .pending .. => False
    | _ => True)
section
variable {E : Env} {P : Program} (hE : EnvOk E P) {B : Nat} {μ : Mu} {h : Hp} {w : World} (hH : HR B μ h w)
include hH in
theorem HR.plain {f : Key} {g b s n : Nat} (hm : μ f g = some (b, s, n)) (hlt : g < strGen) : Plain w b := by
  have ho := hH.obj f
  have z : ∀ (hg : ∀ g, 0 < g → μ f g = none), g = 0 := by
    intro hg
    rcases Nat.eq_zero_or_pos g with h0 | h0
    · exact h0
    · rw [hg g h0] at hm; cases hm
  cases hob : hget f h with
  | none => rw [hob] at ho; rw [ho g] at hm; cases hm
  | cells ro gen sz dp ext c =>
    obtain ⟨_, _, hb⟩ := hH.cells hob
    obtain ⟨_, _, cs, e, fz, hheap, hfz, _⟩ := hb g b s n hm
    refine ⟨_, hheap, ?_⟩
    rcases hfz with rfl | ⟨h1, _⟩
    · rfl
    · omega
  | map es c =>
    rw [hob] at ho
    obtain ⟨hg, hb⟩ := ho
    have := z hg; subst this
    obtain ⟨_, es', hheap, _⟩ := hb b s n hm
    exact ⟨_, hheap, trivial⟩
  | strIter x p =>
    rw [hob] at ho
    obtain ⟨hg, hb⟩ := ho
    have := z hg; subst this
    obtain ⟨_, _, x', hheap, _⟩ := hb b s n hm
    exact ⟨_, hheap, trivial⟩
  | mapIter m si se st =>
    rw [hob] at ho
    obtain ⟨hg, hb⟩ := ho
    have := z hg; subst this
    obtain ⟨_, _, m', hheap, _⟩ := hb b s n hm
    exact ⟨_, hheap, trivial⟩
  | loop st p fn tm ps a b' df x =>
    rw [hob] at ho
    obtain ⟨hg, hb⟩ := ho
    have := z hg; subst this
    obtain ⟨_, t, dfb, s', n', hheap, _⟩ := hb b s n hm
    exact ⟨_, hheap, trivial⟩
  | deferred ds =>
    rw [hob] at ho
    obtain ⟨hg, hb⟩ := ho
    have := z hg; subst this
    obtain ⟨_, ds', hheap, _⟩ := hb b s n hm
    exact ⟨_, hheap, trivial⟩
  | iv lo hi =>
    rw [hob] at ho
    rw [ho.1 g] at hm
    cases hm
  | lst ro gen sz q sfx =>
    rw [hob] at ho
    obtain ⟨_, _, hb⟩ := ho
    obtain ⟨⟨_, h2⟩, cs, e, fz, hheap, hfz, _⟩ := hb g b s n hm
    refine ⟨_, hheap, ?_⟩
    cases ro with
    | false => exact hfz rfl
    | true =>
      have := h2 rfl
      have e1 : lstGen = 131072 := rfl
      have e2 : strGen = 65536 := rfl
      omega
  | mapu es =>
    rw [hob] at ho
    obtain ⟨hg, hb⟩ := ho
    have := z hg; subst this
    obtain ⟨_, es', c, es0, hheap, _⟩ := hb b s n hm
    exact ⟨_, hheap, trivial⟩
theorem Plain.frozen {b i : Nat} (hp : Plain w b) : w.frozen? ⟨b, i, none⟩ = false := by
  obtain ⟨o, ho, hk⟩ := hp
  unfold World.frozen?
  rw [ho]
  cases o <;> first | (simp only at hk; subst hk; simp) | rfl
theorem Plain.stringish {b i : Nat} (hp : Plain w b) : (stringish ⟨b, i, none⟩).run P w = .ok false w := by
  have hf : ∀ i, w.frozen? ⟨b, i, none⟩ = false := fun i => hp.frozen
  unfold Go.stringish
  simp only [Sem.run_bind, run_frozen, hf, Result.andThen_ok, Bool.false_eq_true, if_false, run_shape]
  cases w.shape? b <;> simp [hf]
theorem Plain.noView {b i : Nat} (hp : Plain w b) : (noView ⟨b, i, none⟩).run P w = .ok () w := by
  obtain ⟨o, ho, hk⟩ := hp
  unfold Go.noView viewAt
  cases o with
  | cells cs e fz => simp [World.shape?, ho]
  | view a t => exact hk.elim
  | _ => simp [World.shape?, ho, getObj, Sem.run]
theorem run_same {b b' x x' : Nat} (h1 : Plain w b) (h2 : Plain w b') (hne : b ≠ b') :
    (sameAddr ⟨b, x, none⟩ ⟨b', x', none⟩).run P w = .ok false w := by
  have hb : (b == b') = false := by simpa using hne
  unfold sameAddr mayBeOne
  simp only [hb, Bool.false_eq_true, if_false, Sem.run_bind, run_frozen, h1.frozen, h2.frozen, Result.andThen_ok, h1.noView, h2.noView, h1.stringish, h2.stringish, Bool.false_and,
    Sem.run_pure, Bool.or_false, if_false]
  simp
theorem tyFs_cases (f : TypeId → Ty) : ∀ (fs : List Field), (tyFs E f fs = .fnil ∨ (∃ a b c t r, tyFs E f fs = .fcons a b c t r) ∨ tyFs E f fs = .bad)
  | [] => .inl rfl
  | x :: xs => by
    unfold tyFs
    cases decide (x.name = "_") with
    | true => exact tyFs_cases f xs
    | false =>
      show (match E.szA x.type with | some (n, a) => Ty.fcons x.offset n a (f x.type) (tyFs E f xs) | none => .bad) = _ ∨ _
      cases E.szA x.type with
      | none => exact .inr (.inr rfl)
      | some p => exact .inr (.inl ⟨_, _, _, _, _, rfl⟩)
include hE in
theorem eqFs_sound {d N : Nat} {k : Nat} (ih : ∀ (t : TypeId) (X Y : AV) (u v : Value) (r : Bool), aeq E d (tyOf E k t) X Y = some r → VR μ X u → VR μ Y v → (Op.equalIn N t u v).run P w = .ok r w)
    {xs ys : List AV} {us vs : Array Value} (hx : VRs μ xs us.toList) (hy : VRs μ ys vs.toList) : ∀ (fs : List Field) (r : Bool),
    eqFs (aeq E d) xs ys (tyFs E (tyOf E k) fs) = some r → (Op.eqFields N us vs fs).run P w = .ok r w
  | [], r, hr => by cases hr; rfl
  | f :: fs, r, hr => by
    unfold tyFs at hr
    unfold Op.eqFields
    by_cases hn : f.name = "_"
    · simp only [hn, decide_true, cond_true] at hr
      simp only [hn, ne_eq, not_true_eq_false, if_false]
      exact eqFs_sound ih hx hy fs r hr
    · simp only [hn, decide_false, cond_false] at hr
      simp only [ne_eq, hn, not_false_eq_true, if_true]
      cases hs : E.szA f.type with
      | none => rw [hs] at hr; cases hr
      | some p =>
        obtain ⟨n, a⟩ := p
        rw [hs] at hr
        simp only [eqFs] at hr
        split at hr
        · rename_i p1 p2 c1 c2
          obtain ⟨ds, h1, h2, h3⟩ := szA_some hs
          obtain ⟨u, hu, hur⟩ := cut_sound (P := P) (w := w) h1 h2 h3 hE hx c1
          obtain ⟨v, hv, hvr⟩ := cut_sound (P := P) (w := w) h1 h2 h3 hE hy c2
          simp only [Sem.run_bind, hu, hv, Result.andThen_ok]
          split at hr
          · rename_i he
            have := ih f.type p1 p2 u v true he hur hvr
            simp only [this, Result.andThen_ok, Bool.not_true, Bool.false_eq_true, if_false]
            exact eqFs_sound ih hx hy fs r hr
          · rename_i he
            cases hr
            have := ih f.type p1 p2 u v false he hur hvr
            simp only [this, Result.andThen_ok, Bool.not_false, if_true, Sem.run_pure]
          · cases hr
        · cases hr
end
end Go.Ev

namespace Go.Ev
set_option linter.unusedVariables false
set_option linter.unusedSectionVars false
set_option linter.unusedSimpArgs false
variable [Val] [Fk]
theorem sxEqv_sound (hF : FkOk) {μ : Mu} {X Y : AV} {u v : Value} {r : Bool} (hr : sxEqv X Y = some r) (hx : VR μ X u) (hy : VR μ Y v) : ∃ k a b, u = .int k a ∧ v = .int k b ∧ r = decide (a = b) := by
  unfold sxEqv at hr
  split at hr
  · rename_i k f c lo hi l f' c' lo' hi'
    obtain ⟨h1, hr1⟩ := cnd_inv hr
    clear hr
    have := keq_true h1; subst this
    cases h2 : Key.beq f f' with
    | true =>
      rw [h2] at hr1
      obtain ⟨h3, hr'⟩ := cnd_inv (show cnd (ieq c c') (some true) none = some r from hr1)
      simp only [VR] at hx hy
      obtain ⟨rfl, _, _⟩ := hx
      obtain ⟨rfl, _, _⟩ := hy
      have := Key.beq_eq h2; subst this
      rw [ieq_eq] at h3
      have := of_decide_eq_true h3
      subst this
      cases hr'
      exact ⟨k, _, _, rfl, rfl, by simp⟩
    | false =>
      rw [h2] at hr1
      obtain ⟨h3, hr'⟩ := cnd_inv (show cnd (sxNe k f c lo hi f' c' lo' hi') (some false) none = some r from hr1)
      cases hr'
      obtain ⟨a, b, rfl, rfl, hne⟩ := sxNe_sound hF h3 hx hy
      exact ⟨k, a, b, rfl, rfl, by simp [hne]⟩
  · rename_i k f c lo hi l n
    simp only [VR] at hx hy
    obtain ⟨rfl, g1, g2⟩ := hx
    subst hy
    obtain ⟨h1, hr1⟩ := cnd_inv hr
    obtain ⟨h0, hr'⟩ := cnd_inv hr1
    clear hr hr1
    have := keq_true h1; subst this
    rw [fitK_wrap h0 g1 g2]
    rw [ilt_eq, ilt_eq] at hr'
    refine ⟨k, _, _, rfl, rfl, ?_⟩
    cases h2 : decide (n < lo) with
    | true =>
      rw [h2] at hr'
      have := of_decide_eq_true h2
      cases hr'
      rw [decide_eq_false (by omega)]
    | false =>
      rw [h2] at hr'
      cases h3 : decide (hi < n) with
      | true =>
        rw [h3] at hr'
        have := of_decide_eq_true h3
        cases hr'
        rw [decide_eq_false (by omega)]
      | false => rw [h3] at hr'; cases hr'
  · rename_i l n k f c lo hi
    simp only [VR] at hx hy
    obtain ⟨rfl, g1, g2⟩ := hy
    subst hx
    obtain ⟨h1, hr1⟩ := cnd_inv hr
    obtain ⟨h0, hr'⟩ := cnd_inv hr1
    clear hr hr1
    have := keq_true h1; subst this
    rw [fitK_wrap h0 g1 g2]
    rw [ilt_eq, ilt_eq] at hr'
    refine ⟨k, _, _, rfl, rfl, ?_⟩
    cases h2 : decide (n < lo) with
    | true =>
      rw [h2] at hr'
      have := of_decide_eq_true h2
      cases hr'
      rw [decide_eq_false (by omega)]
    | false =>
      rw [h2] at hr'
      cases h3 : decide (hi < n) with
      | true =>
        rw [h3] at hr'
        have := of_decide_eq_true h3
        cases hr'
        rw [decide_eq_false (by omega)]
      | false => rw [h3] at hr'; cases hr'
  · cases hr
theorem asInt_none {R : Type} {a : AV} {e : R} {k : IntKind → Int → R} (h : ∀ k n, a ≠ .int k n) : asInt a e k = e := by
  cases a <;> first | rfl | exact absurd rfl (h _ _)
theorem int_eqv (hF : FkOk) {E : Env} {d : Nat} {μ : Mu} {X Y : AV} {u v : Value} {r : Bool} (hr : aeq E (d + 1) .int X Y = some r) (hx : VR μ X u) (hy : VR μ Y v) : ∃ k a b, u = .int k a ∧ v = .int k b ∧ r = decide (a = b) := by
  have hr : asInt X (sxEqv X Y) (fun k a => asInt Y (sxEqv X Y) fun l b => cnd (keq k l) (some (ieq a b)) none) = some r := hr
  cases X with
  | int k a =>
    have hr : asInt Y (sxEqv (.int k a) Y) (fun l b => cnd (keq k l) (some (ieq a b)) none) = some r := hr
    cases Y with
    | int l b =>
      obtain ⟨h1, hr'⟩ := cnd_inv (show cnd (keq k l) (some (ieq a b)) none = some r from hr)
      have := keq_true h1; subst this
      simp only [VR] at hx hy
      subst hx hy
      rw [ieq_eq] at hr'
      cases hr'
      exact ⟨k, a, b, rfl, rfl, rfl⟩
    | _ => rw [asInt_none (fun _ _ h => by cases h)] at hr; exact sxEqv_sound hF hr hx hy
  | _ => rw [asInt_none (fun _ _ h => by cases h)] at hr; exact sxEqv_sound hF hr hx hy
theorem bool_eqvL {E : Env} {d : Nat} {μ : Mu} {X Y : AV} {u : Value} {r : Bool} (hr : aeq E (d + 1) .bool X Y = some r) (hx : VR μ X u) : ∃ b, u = .bool b := by
  replace hr : opt (asBool X none fun a => asBool Y none fun b => some (cnd a b (bnot b))) (bEqv X Y) some = some r := hr
  cases X with
  | bool b => simp only [VR] at hx; exact ⟨b, hx⟩
  | eqv f t n => simp only [VR] at hx; exact ⟨_, hx⟩
  | _ => cases hr
section
variable {E : Env} {P : Program} (hE : EnvOk E P) {B : Nat} {μ : Mu} {h : Hp} {w : World} (hH : HR B μ h w)
include hE hH in
theorem aeq_sound : ∀ (d k : Nat) (t : TypeId) (X Y : AV) (u v : Value) (r : Bool) (N : Nat), aeq E d (tyOf E k t) X Y = some r → VR μ X u → VR μ Y v → d ≤ N →
    (Op.equalIn N t u v).run P w = .ok r w
  | 0, k, t, X, Y, u, v, r, N, hr, _, _, _ => by cases hr
  | d + 1, 0, t, X, Y, u, v, r, N, hr, _, _, _ => by cases hr
  | d + 1, k + 1, t, X, Y, u, v, r, 0, hr, hx, hy, hN => by omega
  | d + 1, k + 1, t, X, Y, u, v, r, N + 1, hr, hx, hy, hN => by
    have hdN : d ≤ N := by omega
    unfold tyOf at hr
    split at hr
    · rename_i hu
      obtain ⟨b, c, rfl, rfl, rfl⟩ : ∃ b c, u = .bool b ∧ v = .bool c ∧ r = (b == c) := by
        have hz : opt (asBool X none fun a => asBool Y none fun b => some (cnd a b (bnot b))) (bEqv X Y) some = some r := hr
        clear hr
        cases h0 : (asBool X none fun a => asBool Y none fun b => some (cnd a b (bnot b))) with
        | some r' =>
          rw [h0] at hz
          cases hz
          replace h0 := asBool_some h0
          obtain ⟨b, rfl, k1⟩ := h0
          replace k1 := asBool_some k1
          obtain ⟨c, rfl, k2⟩ := k1
          simp only [VR] at hx hy; subst hx hy
          exact ⟨b, c, rfl, rfl, by cases k2; cases b <;> cases c <;> rfl⟩
        | none =>
          rw [h0] at hz
          have hz : bEqv X Y = some r := hz
          cases X with
          | eqv f t0 n =>
            cases Y with
            | eqv f' t' n' =>
              replace hz := cnd_inv (show cnd (Key.beq f f') (cnd (ieq t0 t') (cnd (cnd n n' (bnot n')) (some true) none) none) none = some r from hz)
              obtain ⟨h1, hz⟩ := hz
              replace hz := cnd_inv hz
              obtain ⟨h2, hz⟩ := hz
              replace hz := cnd_inv hz
              obtain ⟨h3, hz⟩ := hz
              cases hz
              obtain rfl := Key.beq_eq h1
              rw [ieq_eq] at h2
              obtain rfl := of_decide_eq_true h2
              obtain rfl : n = n' := by cases n <;> cases n' <;> first | rfl | cases h3
              simp only [VR] at hx hy; subst hx hy
              exact ⟨_, _, rfl, rfl, by simp⟩
            | _ => cases hz
          | _ => cases hz
      rw [run_equalIn_bool' _ _ _ _ _ (hE.und hu)]
    · rename_i kk hu
      obtain ⟨k1, b, c, rfl, rfl, rfl⟩ := int_eqv hH.fk hr hx hy
      rw [run_equalIn_int _ _ _ _ _ _ _ (hE.und hu)]
      congr 1
    · rename_i hu
      replace hr := asStr_some hr
      obtain ⟨b, rfl, h3⟩ := hr
      replace h3 := asStr_some h3
      obtain ⟨c, rfl, h4⟩ := h3
      simp only [VR] at hx hy
      obtain ⟨x, rfl, h1⟩ := hx
      obtain ⟨y, rfl, h2⟩ := hy
      rw [run_equalIn_string _ _ _ _ _ (hE.und hu)]
      subst h1 h2
      rw [leq_eq] at h4
      cases h4
      rw [Go.ByteArray.toList_eq, Go.ByteArray.toList_eq]
      congr 1
      rw [Bool.eq_iff_iff]
      simp only [beq_iff_eq, decide_eq_true_eq]
      exact ⟨fun h => by rw [h], map_inj⟩
    · rename_i el hu
      split at hr
      · rename_i n hsz
        unfold aeq at hr
        simp only at hr
        split at hr
        · simp only [VR] at hx hy; subst hx hy; cases hr
          simp [Op.equalIn, hE.runUnd hu]
        · simp only [VR] at hx hy; obtain ⟨b, s, n, _, _, rfl⟩ := hy; subst hx; cases hr
          simp [Op.equalIn, hE.runUnd hu]
        · simp only [VR] at hx hy; obtain ⟨b, s, n, _, _, rfl⟩ := hx; subst hy; cases hr
          simp [Op.equalIn, hE.runUnd hu]
        · rename_i f g o f' g' o'
          simp only [VR] at hx hy
          obtain ⟨b, s, m, hm, hs, rfl⟩ := hx
          obtain ⟨b', s', m', hm', hs', rfl⟩ := hy
          have red : (Op.equalIn (N + 1) t (.pointer (some ⟨b, o - s, none⟩)) (.pointer (some ⟨b', o' - s', none⟩))).run P w = (sameAddr ⟨b, o - s, none⟩ ⟨b', o' - s', none⟩).run P w := by
            simp [Op.equalIn, hE.runUnd hu, hE.runSize hsz]
          rw [red]
          replace hr : ptrEq f g o f' g' o' = some r := hr
          unfold ptrEq at hr
          have both : ∀ {r : Bool}, cnd (Nat.blt g strGen) (cnd (Nat.blt g' strGen) (some false) none) none = some r → r = false ∧ Plain w b ∧ Plain w b' ∧ (g < lstGen ∧ g' < lstGen) := by
            intro r hh
            obtain ⟨h1, hh⟩ := cnd_inv hh
            obtain ⟨h2, hh⟩ := cnd_inv hh
            cases hh
            have l1 : g < strGen := Nat.le_of_ble_eq_true h1
            have l2 : g' < strGen := Nat.le_of_ble_eq_true h2
            have e1 : lstGen = 131072 := rfl
            have e2 : strGen = 65536 := rfl
            exact ⟨rfl, hH.plain hm l1, hH.plain hm' l2, by omega, by omega⟩
          cases hf : Key.beq f f' with
          | false =>
            rw [hf] at hr
            obtain ⟨rfl, p1, p2, p3⟩ := both hr
            have hne := Key.beq_ne hf
            exact run_same p1 p2 (fun hb => hne (by subst hb; exact (hH.inj _ _ _ _ _ _ _ _ _ hm hm' (.inl p3)).1))
          | true =>
            have := Key.beq_eq hf; subst this
            rw [hf] at hr
            simp only [cnd_true] at hr
            cases hgg : Nat.beq g g' with
            | true =>
              have := Nat.eq_of_beq_eq_true hgg; subst this
              rw [hgg] at hr
              cases hr
              rw [hm] at hm'
              simp only [Option.some.injEq, Prod.mk.injEq] at hm'
              obtain ⟨rfl, rfl, rfl⟩ := hm'
              by_cases ho : o = o'
              · subst ho; simp [sameAddr]
              · have e1 : Nat.beq o o' = false := by cases hh : Nat.beq o o' with
                  | false => rfl
                  | true => exact absurd (Nat.eq_of_beq_eq_true hh) ho
                have : o - s ≠ o' - s := by omega
                rw [e1]; simp [sameAddr, this]
            | false =>
              rw [hgg] at hr
              simp only [cnd_false] at hr
              obtain ⟨ho, hr⟩ := cnd_inv' hr
              obtain ⟨rfl, p1, p2, p3⟩ := both hr
              have e1 : o ≠ o' := by intro hh; subst hh; simp at ho
              by_cases hb : b = b'
              · subst hb
                obtain ⟨_, rfl, rfl⟩ := hH.inj _ _ _ _ _ _ _ _ _ hm hm' (.inl p3)
                have : o - s ≠ o' - s := by omega
                simp [sameAddr, this]
              · exact run_same p1 p2 hb
        · cases hr
      · cases hr
    · rename_i ms hu
      unfold aeq at hr
      simp only at hr
      split at hr
      · simp only [VR] at hx hy; subst hx hy; cases hr
        simp [Op.equalIn, hE.runUnd hu]
      · simp only [VR] at hx hy; obtain ⟨z, rfl, _⟩ := hy; subst hx; cases hr
        simp [Op.equalIn, hE.runUnd hu]
      · simp only [VR] at hx hy; obtain ⟨z, rfl, _⟩ := hx; subst hy; cases hr
        simp [Op.equalIn, hE.runUnd hu]
      · rename_i tx vx ty vy
        simp only [VR] at hx hy
        obtain ⟨x, rfl, hx⟩ := hx
        obtain ⟨y, rfl, hy⟩ := hy
        cases ht : Nat.beq tx ty with
        | false =>
          rw [ht] at hr
          have hr' : some false = some r := hr
          cases hr'
          have hne : tx ≠ ty := by intro hh; subst hh; simp at ht
          simp [Op.equalIn, hE.runUnd hu, hne]
        | true =>
          have := Nat.eq_of_beq_eq_true ht; subst this
          rw [ht] at hr
          have hr' : (match E.ts.get tx with | some i => cnd i.comparable (aeq E d (tyOf E 8 tx) vx vy) none | none => none) = some r := hr
          split at hr'
          · rename_i i hi
            replace hr' := cnd_inv hr'
            have ih := aeq_sound d 8 tx vx vy x y r N hr'.2 hx hy hdN
            have hinfo := hE.ts _ _ hi
            simp [Op.equalIn, hE.runUnd hu, typeInfo, hinfo, hr'.1, ih]
          · cases hr'
      · cases hr
    · rename_i el hu
      unfold aeq at hr
      simp only at hr
      split at hr
      · simp only [VR] at hx hy; subst hx hy; cases hr
        simp [Op.equalIn, hE.runUnd hu]
      · simp only [VR] at hx hy; obtain ⟨b, s, n, z, c, _, rfl, _⟩ := hy; subst hx; cases hr
        simp [Op.equalIn, hE.runUnd hu]
      · simp only [VR] at hx hy; obtain ⟨b, s, n, z, c, _, rfl, _⟩ := hx; subst hy; cases hr
        simp [Op.equalIn, hE.runUnd hu]
      · cases hr
    · rename_i k1 e1 hu
      unfold aeq at hr
      simp only at hr
      split at hr
      · simp only [VR] at hx hy; subst hx hy; cases hr
        simp [Op.equalIn, hE.runUnd hu]
      · simp only [VR] at hx hy; obtain ⟨b, s, n, _, rfl⟩ := hy; subst hx; cases hr
        simp [Op.equalIn, hE.runUnd hu]
      · simp only [VR] at hx hy; obtain ⟨b, s, n, _, rfl⟩ := hx; subst hy; cases hr
        simp [Op.equalIn, hE.runUnd hu]
      · cases hr
    · rename_i p1 p2 p3 hu
      unfold aeq at hr
      simp only at hr
      split at hr
      · simp only [VR] at hx hy; subst hx hy; cases hr
        simp [Op.equalIn, hE.runUnd hu]
      · simp only [VR] at hx hy; obtain ⟨F, fs, cs, rfl, _⟩ := hy; subst hx; cases hr
        simp [Op.equalIn, hE.runUnd hu]
      · simp only [VR] at hx hy; obtain ⟨F, fs, cs, rfl, _⟩ := hx; subst hy; cases hr
        simp [Op.equalIn, hE.runUnd hu]
      · cases hr
    · rename_i fs hu
      cases hst : E.P.stoodInHeld t with
      | true => rw [hst] at hr; cases hr
      | false =>
        rw [hst] at hr
        simp only [cond_false] at hr
        have hst' : P.stoodInHeld t = false := by rw [← hE.prog]; exact hst
        have hagg : ∃ xs ys, X = .agg xs ∧ Y = .agg ys ∧ eqFs (aeq E d) xs ys (tyFs E (tyOf E k) fs.toList) = some r := by
          rcases tyFs_cases (E := E) (tyOf E k) fs.toList with h0 | ⟨a, b, c, t', r', h0⟩ | h0
          · rw [h0] at hr ⊢
            replace hr := asAgg_some hr
            obtain ⟨xs, rfl, h3⟩ := hr
            replace h3 := asAgg_some h3
            obtain ⟨ys, rfl, h4⟩ := h3
            exact ⟨xs, ys, rfl, rfl, h4⟩
          · rw [h0] at hr ⊢
            replace hr := asAgg_some hr
            obtain ⟨xs, rfl, h3⟩ := hr
            replace h3 := asAgg_some h3
            obtain ⟨ys, rfl, h4⟩ := h3
            exact ⟨xs, ys, rfl, rfl, h4⟩
          · rw [h0] at hr; cases hr
        obtain ⟨xs, ys, rfl, rfl, hfs⟩ := hagg
        simp only [VR] at hx hy
        obtain ⟨us, rfl, hx⟩ := hx
        obtain ⟨vs, rfl, hy⟩ := hy
        have hund := hE.und hu
        have hfo : P.fieldsOf t = fs := by simp [Program.fieldsOf, hund]
        rw [run_equalIn_struct w N t us vs (by rw [hfo]; exact hund) hst', hfo]
        exact eqFs_sound hE (fun t' X' Y' u' v' r' he h1 h2 => aeq_sound d k t' X' Y' u' v' r' N he h1 h2 hdN) hx hy fs.toList r hfs
    · cases hr
end
end Go.Ev
