/- ScriptBack: orders and their bytes; the names of a run, what they stand for. -/
import Derived.Test.YtadnhmpkfelofaaGreatDoorPr
import Derived.KernelRfl
set_option warn.classDefReducibility false
set_option linter.unusedVariables false
set_option linter.unusedSectionVars false
set_option linter.unusedSimpArgs false
open Go Go.Ev
namespace Go.Proofs.YtadnhmpkfelofaaGreatDoor
namespace Back
noncomputable section
/-! names -/
def kO : Key := (.mk .d0 .d0 .d0 .d2 .d4)
def kA : Key := (.mk .d0 .d0 .d0 .d2 .d5)
def kN : Key := (.mk .d0 .d0 .d0 .d2 .d6)
def kX : Key := (.mk .d0 .d0 .d0 .d2 .d7)
def kK : Key := (.mk .d0 .d0 .d0 .d3 .d0)
def kB : Key := (.mk .d0 .d0 .d0 .d3 .d1)
def kR : Key := (.mk .d0 .d0 .d0 .d3 .d2)
def kF : Key := (.mk .d0 .d0 .d0 .d3 .d3)
def kQ : Key := (.mk .d0 .d0 .d0 .d3 .d4)
def kG : Key := (.mk .d0 .d0 .d0 .d3 .d5)
abbrev mn : Int := -9223372036854775808
abbrev mx : Int := 9223372036854775807
/-- a class of orders: what the kind is, what the numbers lie between, may it be, its bytes -/
structure Cs where
  k : AV
  ivK : Int × Int
  ivN : Int × Int
  ivX : Int × Int
  bs : List AV
def cV (k a b c d : Int) (bs : List AV) : Cs := ⟨.int .i64 k, (mn, mx), (a, b), (c, d), bs⟩
def bads (k a b c d : Int) : List Cs := [cV k mn (a - 1) mn mx [], cV k (b + 1) mx mn mx [], cV k a b mn (c - 1) [], cV k a b (d + 1) mx []]
def n0 : AV := .sx .u8 kN 0 0 255
def n1 : AV := .sx .u8 kN (-1) 0 254
def x0 : AV := .sx .u8 kX 0 0 255
def x1 : AV := .sx .u8 kX 1 0 8
def v1 : Cs := cV 1 0 255 0 0 [U 0, n0, U 0]
def v2a : Cs := cV 2 1 2 0 0 [U 1, n1, U 0]
def v2b : Cs := cV 2 3 3 0 255 [U 1, U 2, x0]
def v2c : Cs := cV 2 4 5 0 0 [U 1, n1, U 0]
def v2d : Cs := cV 2 6 6 0 255 [U 1, U 5, x0]
def v3 : Cs := cV 3 0 255 (-1) 7 [U 2, n0, x1]
def v4 : Cs := cV 4 0 255 (-1) 7 [U 3, n0, x1]
def v5 : Cs := cV 5 0 0 0 0 [U 4, U 0, U 0]
def goods : List Cs := [v1, v2a, v2b, v2c, v2d, v3, v4, v5]
def kLo : Cs := ⟨.sx .i64 kK 0 mn 0, (mn, 0), (mn, mx), (mn, mx), []⟩
def kHi : Cs := ⟨.sx .i64 kK 0 6 mx, (6, mx), (mn, mx), (mn, mx), []⟩
def falls : List Cs := bads 1 0 255 0 0 ++ [cV 2 1 2 1 255 [], cV 2 4 5 1 255 []] ++ bads 2 1 6 0 255 ++ bads 3 0 255 (-1) 7 ++ bads 4 0 255 (-1) 7 ++ bads 5 0 0 0 0 ++ [kLo, kHi]
/-! orders and their bytes -/
abbrev Od := Int × Int × Int
def orow (o : Od) : List Value := [.int .i64 o.1, .int .i64 o.2.1, .int .i64 o.2.2]
def brow (b : Int) : List Value := [.int .u8 b]
def okO (o : Od) : Prop := (o.1 = 1 ∧ 0 ≤ o.2.1 ∧ o.2.1 ≤ 255 ∧ o.2.2 = 0) ∨ (o.1 = 2 ∧ 1 ≤ o.2.1 ∧ o.2.1 ≤ 6 ∧ 0 ≤ o.2.2 ∧ o.2.2 ≤ 255 ∧ (o.2.1 = 3 ∨ o.2.1 = 6 ∨ o.2.2 = 0)) ∨
  ((o.1 = 3 ∨ o.1 = 4) ∧ 0 ≤ o.2.1 ∧ o.2.1 ≤ 255 ∧ -1 ≤ o.2.2 ∧ o.2.2 ≤ 7) ∨ (o.1 = 5 ∧ o.2.1 = 0 ∧ o.2.2 = 0)
def bytesO (o : Od) : List Int := [o.1 - 1, o.2.1 - (if o.1 = 2 then 1 else 0), o.2.2 + (if o.1 = 3 ∨ o.1 = 4 then 1 else 0)]
def bytes (l : List Od) : List Int := l.flatMap bytesO
theorem bytes_length : ∀ l : List Od, (bytes l).length = 3 * l.length
  | [] => rfl
  | o :: l => by have := bytes_length l; simp only [bytes, List.flatMap_cons, List.length_append, List.length_cons, bytesO, List.length_nil] at this ⊢; omega
def rowsG (q k : Key) : Nat → List AV → List Rf
  | _, [] => []
  | j, a :: l => .mk q k (.ofNat j) [a] :: rowsG q k (j + 1) l
/-- what the names stand for: bytes, orders, a place among them, bytes and orders so far; i is the order looked at -/
@[reducible] def V (bs : List Nat) (l : List Od) (p i : Nat) (B : List Int) (R : List Od) : Val :=
  ⟨fun k => bif Key.beq k kO then l.length else bif Key.beq k kA then p else bif Key.beq k kK then (l.getD i (0, 0, 0)).1 else bif Key.beq k kN then (l.getD i (0, 0, 0)).2.1
    else bif Key.beq k kX then (l.getD i (0, 0, 0)).2.2 else bif Key.beq k kB then B.length else bif Key.beq k kR then R.length else bs.length,
   fun k => bif Key.beq k kO then l.map orow else bif Key.beq k kB then B.map brow else bif Key.beq k kR then R.map orow else bif Key.beq k kQ then bs.map Rd.brow else []⟩
section
variable {bs : List Nat} {l : List Od} {p i : Nat} {B : List Int} {R : List Od} {n m : Int}
theorem nzZ : @nz (V bs l p i B R) kZ = 0 := @nz_kZ (V bs l p i B R)
theorem nzO : @nz (V bs l p i B R) kO = (l.length : Int) := @nz_ne (V bs l p i B R) kO rfl
theorem nzA : @nz (V bs l p i B R) kA = (p : Int) := @nz_ne (V bs l p i B R) kA rfl
theorem nzB : @nz (V bs l p i B R) kB = (B.length : Int) := @nz_ne (V bs l p i B R) kB rfl
theorem nzR : @nz (V bs l p i B R) kR = (R.length : Int) := @nz_ne (V bs l p i B R) kR rfl
theorem nzQ : @nz (V bs l p i B R) kQ = (bs.length : Int) := @nz_ne (V bs l p i B R) kQ rfl
theorem nzK : @nz (V bs l p i B R) kK = (l.getD i (0, 0, 0)).1 := @nz_ne (V bs l p i B R) kK rfl
theorem nzN : @nz (V bs l p i B R) kN = (l.getD i (0, 0, 0)).2.1 := @nz_ne (V bs l p i B R) kN rfl
theorem nzX : @nz (V bs l p i B R) kX = (l.getD i (0, 0, 0)).2.2 := @nz_ne (V bs l p i B R) kX rfl
theorem lO : (V bs l p i B R).l kO = l.map orow := rfl
theorem lB : (V bs l p i B R).l kB = B.map brow := rfl
theorem lR : (V bs l p i B R).l kR = R.map orow := rfl
theorem lQ : (V bs l p i B R).l kQ = bs.map Rd.brow := rfl
def In (o : Od) : Prop := (mn ≤ o.1 ∧ o.1 ≤ mx) ∧ (mn ≤ o.2.1 ∧ o.2.1 ≤ mx) ∧ (mn ≤ o.2.2 ∧ o.2.2 ≤ mx)
/-- the orders that come in: not none, not too many; the bytes beside them: not too many -/
def Okl (n : Int) (l : List Od) (bs : List Nat) : Prop := (∀ o ∈ l, In o) ∧ 1 ≤ l.length ∧ (l.length : Int) ≤ n ∧ (bs.length : Int) ≤ 1000
theorem in_at (hl : Okl n l bs) : In (l.getD i (0, 0, 0)) := by
  rw [List.getD_eq_getElem?_getD]
  cases hi : l[i]? with
  | none => exact ⟨⟨by decide, by decide⟩, ⟨by decide, by decide⟩, ⟨by decide, by decide⟩⟩
  | some o => exact hl.1 o (List.mem_of_getElem? hi)
/-- is an order of a class? -/
def Cov (c : Cs) (o : Od) : Prop := (c.ivK.1 ≤ o.1 ∧ o.1 ≤ c.ivK.2) ∧ (c.ivN.1 ≤ o.2.1 ∧ o.2.1 ≤ c.ivN.2) ∧ (c.ivX.1 ≤ o.2.2 ∧ o.2.2 ≤ c.ivX.2) ∧ (c.k = .int .i64 o.1 ∨ c.k = .sx .i64 kK 0 c.ivK.1 c.ivK.2)
theorem cov_V {k a b c d : Int} {bs : List AV} {o : Od} (h : In o) (hk : o.1 = k) (h1 : a ≤ o.2.1) (h2 : o.2.1 ≤ b) (h3 : c ≤ o.2.2) (h4 : o.2.2 ≤ d) : Cov (cV k a b c d bs) o :=
  ⟨h.1, ⟨h1, h2⟩, ⟨h3, h4⟩, .inl (by rw [hk]; rfl)⟩
theorem good_of {o : Od} (h : In o) (hk : okO o) : ∃ c ∈ goods, Cov c o := by
  rcases hk with ⟨e, a, b, c⟩ | ⟨e, a, b, c, d, f⟩ | ⟨e | e, a, b, c, d⟩ | ⟨e, a, b⟩
  · exact ⟨v1, by simp [goods], cov_V h e a b (by omega) (by omega)⟩
  · by_cases h3 : o.2.1 = 3
    · exact ⟨v2b, by simp [goods], cov_V h e (by omega) (by omega) c d⟩
    · by_cases h6 : o.2.1 = 6
      · exact ⟨v2d, by simp [goods], cov_V h e (by omega) (by omega) c d⟩
      · by_cases h2 : o.2.1 ≤ 2
        · exact ⟨v2a, by simp [goods], cov_V h e a h2 (by omega) (by omega)⟩
        · exact ⟨v2c, by simp [goods], cov_V h e (by omega) (by omega) (by omega) (by omega)⟩
  · exact ⟨v3, by simp [goods], cov_V h e a b c d⟩
  · exact ⟨v4, by simp [goods], cov_V h e a b c d⟩
  · exact ⟨v5, by simp [goods], cov_V h e (by omega) (by omega) (by omega) (by omega)⟩
theorem bad_of {o : Od} (h : In o) {k a b c d : Int} (hk : o.1 = k) (hn : ¬ (a ≤ o.2.1 ∧ o.2.1 ≤ b ∧ c ≤ o.2.2 ∧ o.2.2 ≤ d)) : ∃ x ∈ bads k a b c d, Cov x o := by
  have h0 := h
  obtain ⟨_, ⟨i1, i2⟩, ⟨i3, i4⟩⟩ := h0
  by_cases h1 : o.2.1 < a
  · exact ⟨_, List.mem_cons_self .., cov_V h hk i1 (by omega) i3 i4⟩
  · by_cases h2 : b < o.2.1
    · exact ⟨_, List.mem_cons_of_mem _ (List.mem_cons_self ..), cov_V h hk (by omega) i2 i3 i4⟩
    · by_cases h3 : o.2.2 < c
      · exact ⟨_, List.mem_cons_of_mem _ (List.mem_cons_of_mem _ (List.mem_cons_self ..)), cov_V h hk (by omega) (by omega) i3 (by omega)⟩
      · exact ⟨_, List.mem_cons_of_mem _ (List.mem_cons_of_mem _ (List.mem_cons_of_mem _ (List.mem_cons_self ..))), cov_V h hk (by omega) (by omega) (by omega) i4⟩
theorem fall_of {o : Od} (h : In o) (hk : ¬ okO o) : ∃ c ∈ falls, Cov c o := by
  have h' := h
  obtain ⟨⟨i1, i2⟩, ⟨i3, i4⟩, ⟨i5, i6⟩⟩ := h'
  unfold okO at hk
  have put : ∀ {k a b c d : Int}, (∀ x ∈ bads k a b c d, x ∈ falls) → o.1 = k → ¬ (a ≤ o.2.1 ∧ o.2.1 ≤ b ∧ c ≤ o.2.2 ∧ o.2.2 ≤ d) → ∃ c ∈ falls, Cov c o := by
    intro k a b c d hs e hn
    obtain ⟨x, h1, h2⟩ := bad_of h e hn
    exact ⟨x, hs x h1, h2⟩
  by_cases k0 : o.1 ≤ 0
  · exact ⟨kLo, by simp [falls], ⟨⟨i1, k0⟩, ⟨i3, i4⟩, ⟨i5, i6⟩, .inr rfl⟩⟩
  by_cases k6 : 6 ≤ o.1
  · exact ⟨kHi, by simp [falls], ⟨⟨k6, i2⟩, ⟨i3, i4⟩, ⟨i5, i6⟩, .inr rfl⟩⟩
  have cases5 : o.1 = 1 ∨ o.1 = 2 ∨ o.1 = 3 ∨ o.1 = 4 ∨ o.1 = 5 := by omega
  rcases cases5 with e | e | e | e | e
  · exact put (k := 1) (a := 0) (b := 255) (c := 0) (d := 0) (fun x hx => by simp only [falls, List.mem_append]; simp [hx]) e (by omega)
  · by_cases hin : 1 ≤ o.2.1 ∧ o.2.1 ≤ 6 ∧ 0 ≤ o.2.2 ∧ o.2.2 ≤ 255
    · by_cases h2 : o.2.1 ≤ 2
      · exact ⟨cV 2 1 2 1 255 [], by simp [falls], cov_V h e (by omega) h2 (by omega) (by omega)⟩
      · exact ⟨cV 2 4 5 1 255 [], by simp [falls], cov_V h e (by omega) (by omega) (by omega) (by omega)⟩
    · exact put (k := 2) (a := 1) (b := 6) (c := 0) (d := 255) (fun x hx => by simp only [falls, List.mem_append]; simp [hx]) e hin
  · exact put (k := 3) (a := 0) (b := 255) (c := -1) (d := 7) (fun x hx => by simp only [falls, List.mem_append]; simp [hx]) e (by omega)
  · exact put (k := 4) (a := 0) (b := 255) (c := -1) (d := 7) (fun x hx => by simp only [falls, List.mem_append]; simp [hx]) e (by omega)
  · exact put (k := 5) (a := 0) (b := 0) (c := 0) (d := 0) (fun x hx => by simp only [falls, List.mem_append]; simp [hx]) e (by omega)
def row (c : Cs) : List AV := [c.k, .sx .i64 kN 0 c.ivN.1 c.ivN.2, .sx .i64 kX 0 c.ivX.1 c.ivX.2]
theorem sx64 {V : Val} {f : Key} {lo hi n : Int} (hn : V.n f = n) (w : mn ≤ n ∧ n ≤ mx) (h : lo ≤ n ∧ n ≤ hi) (μ : Mu) : @VR V μ (.sx .i64 f 0 lo hi) (.int .i64 n) := by
  simp only [VR]
  rw [hn, Int.add_zero, fitW (k := .i64) (lo := mn) (hi := mx) rfl w.1 w.2]
  exact ⟨rfl, h.1, h.2⟩
theorem row_vr (hl : Okl n l bs) {c : Cs} (hc : Cov c (l.getD i (0, 0, 0))) (μ : Mu) : @VRs (V bs l p i B R) μ (row c) (orow (l.getD i (0, 0, 0))) := by
  obtain ⟨i1, i2, i3⟩ := in_at (i := i) hl
  obtain ⟨c1, c2, c3, c4⟩ := hc
  refine @VRs.cons (V bs l p i B R) μ _ _ _ _ ?_ (@VRs.cons (V bs l p i B R) μ _ _ _ _ (sx64 rfl i2 c2 μ) (@VRs.cons (V bs l p i B R) μ _ _ _ _ (sx64 rfl i3 c3 μ) (@VRs.nil (V bs l p i B R) μ)))
  rcases c4 with c4 | c4
  · rw [c4]; simp only [VR]
  · rw [c4]; exact sx64 rfl i1 c1 μ
/-- a row of the orders -/
theorem row_ok {j : Nat} (hj : j < l.length) {k : Key} (hk : @nz (V bs l p i B R) k = (j : Int)) {rw : List AV} (hr : ∀ μ, @VRs (V bs l p i B R) μ rw (orow (l.getD j (0, 0, 0)))) : @RfOk (V bs l p i B R) (.mk kO k 0 rw) := by
  have he : l[j]? = some l[j] := List.getElem?_eq_getElem hj
  have hd : l.getD j (0, 0, 0) = l[j] := by rw [List.getD_eq_getElem?_getD, he]; rfl
  exact ⟨j, orow (l.getD j (0, 0, 0)), by rw [hk]; simp, by rw [lO, List.getElem?_map, he, hd]; rfl, hr⟩
/-- rows of the bytes -/
theorem rows_ok {v : Val} {q k : Key} {pos : Nat} (hk : @nz v k = (pos : Int)) : ∀ (r : List AV) (j : Nat), (∀ i a, r[i]? = some a → ∃ row, (v.l q)[pos + (j + i)]? = some row ∧ ∀ μ, @VRs v μ [a] row) → ∀ x ∈ rowsG q k j r, @RfOk v x
  | [], _, _, x, hx => by cases hx
  | a :: r, j, h, x, hx => by
    rcases List.mem_cons.1 hx with rfl | hx
    · obtain ⟨row, h1, h2⟩ := h 0 a rfl
      exact ⟨pos + j, row, by rw [hk]; simp, by simpa using h1, h2⟩
    · exact rows_ok hk r (j + 1) (fun i a hi => by
        obtain ⟨row, h1, h2⟩ := h (i + 1) a (by simpa using hi)
        exact ⟨row, by rwa [show j + 1 + i = j + (i + 1) from by omega], h2⟩) x hx
def all : Cs := ⟨.sx .i64 kK 0 mn mx, (mn, mx), (mn, mx), (mn, mx), []⟩
theorem all_cov {o : Od} (h : In o) : Cov all o := ⟨h.1, h.2.1, h.2.2, .inr rfl⟩
/-! what is known of names in a run -/
def FiA (n : Int) (rw : List AV) : Fk := ⟨[.mk kZ kO 1 n, .mk kZ kQ 0 1000], [.mk kO kZ 0 rw], []⟩
def FtA (n m : Int) (rw : List AV) : Fk := ⟨[.mk kA kO 1 n, .mk kZ kO 1 n, .mk kZ kA 0 n, .mk kZ kB 3 m, .mk kZ kQ 0 1000], [.mk kO kA 0 rw], []⟩
def FxA (n m : Int) : Fk := ⟨[.mk kA kO 0 0, .mk kZ kO 1 n, .mk kZ kA 0 n, .mk kZ kB 3 m, .mk kZ kQ 0 1000], [], []⟩
def FiB (n m : Int) (rw : List AV) : Fk := ⟨[.mk kZ kB 3 m, .mk kZ kO 1 n, .mk kZ kQ 0 1000], rowsG kB kZ 0 rw, [kB]⟩
def FtB (n m : Int) (rw : List AV) : Fk := ⟨[.mk kA kB 3 m, .mk kZ kB 3 m, .mk kZ kO 1 n, .mk kZ kA 0 m, .mk kZ kR 1 n, .mk kZ kQ 0 1000], rowsG kB kA 0 rw, [kB]⟩
def FxB (n m : Int) : Fk := ⟨[.mk kA kB 0 0, .mk kZ kB 3 m, .mk kZ kO 1 n, .mk kZ kA 0 m, .mk kZ kR 1 n, .mk kZ kQ 0 1000, .mk kR kO 0 0], [], [kB]⟩
def FxC (n m : Int) : Fk := ⟨[.mk kA kO 0 0, .mk kZ kO 1 n, .mk kZ kA 0 n, .mk kZ kB 3 m, .mk kZ kQ 0 1000, .mul kO 3 kB 3 m], [], []⟩
def FiA0 (a b : Int) : Fk := ⟨[.mk kZ kO a b, .mk kZ kQ 0 1000], [], []⟩
def FiA1 (a b c d : Int) : Fk := ⟨[.mk kZ kO a b, .mk kZ kQ c d], [], []⟩
def FD0 : Fk := ⟨[.mk kZ kQ 1 1000], [], [kQ]⟩
def FM0 : Fk := ⟨[.mk kZ kQ 0 0], [], [kQ]⟩
theorem u_ok (h : ∀ b ∈ B, 0 ≤ b ∧ b ≤ 255) : ∀ x ∈ [kB], @UOk (V bs l p i B R) x := by
  intro x hx
  obtain rfl := List.mem_singleton.1 hx
  intro row hrow
  obtain ⟨b, hb', rfl⟩ := List.mem_map.1 hrow
  have := h b hb'
  exact ⟨b.toNat, by simp only [brow, List.cons.injEq, Value.int.injEq, and_true, true_and]; omega, by omega⟩
theorem FiA_ok (hl : Okl n l bs)  {rw : List AV} (hr : ∀ μ, @VRs (V bs l p i B R) μ rw (orow (l.getD 0 (0, 0, 0)))) : @FkOk (V bs l p i B R) (FiA n rw) := by
  obtain ⟨_, hl1, hl2, hl3⟩ := hl
  refine @FkOk.mk (V bs l p i B R) (FiA n rw) (fun x hx => ?_) (fun x hx => by obtain rfl := List.mem_singleton.1 hx; exact row_ok (j := 0) (by omega) nzZ hr) (fun x hx => by cases hx)
  replace hx : x ∈ [Rl.mk kZ kO 1 n, .mk kZ kQ 0 1000] := hx
  simp only [List.mem_cons, List.not_mem_nil, or_false] at hx
  rcases hx with rfl | rfl
  · simp only [RlOk, nzZ, nzO, nzA, nzB, nzR, nzQ]; omega
  · simp only [RlOk, nzZ, nzO, nzA, nzB, nzR, nzQ]; omega
theorem FtA_ok (hl : Okl n l bs) (hp : p < l.length) (h1 : 3 ≤ B.length) (h2 : (B.length : Int) ≤ m) {rw : List AV} (hr : ∀ μ, @VRs (V bs l p i B R) μ rw (orow (l.getD p (0, 0, 0)))) : @FkOk (V bs l p i B R) (FtA n m rw) := by
  obtain ⟨_, hl1, hl2, hl3⟩ := hl
  refine @FkOk.mk (V bs l p i B R) (FtA n m rw) (fun x hx => ?_) (fun x hx => by obtain rfl := List.mem_singleton.1 hx; exact row_ok (j := p) (by omega) nzA hr) (fun x hx => by cases hx)
  replace hx : x ∈ [Rl.mk kA kO 1 n, .mk kZ kO 1 n, .mk kZ kA 0 n, .mk kZ kB 3 m, .mk kZ kQ 0 1000] := hx
  simp only [List.mem_cons, List.not_mem_nil, or_false] at hx
  rcases hx with rfl | rfl | rfl | rfl | rfl
  · simp only [RlOk, nzZ, nzO, nzA, nzB, nzR, nzQ]; omega
  · simp only [RlOk, nzZ, nzO, nzA, nzB, nzR, nzQ]; omega
  · simp only [RlOk, nzZ, nzO, nzA, nzB, nzR, nzQ]; omega
  · simp only [RlOk, nzZ, nzO, nzA, nzB, nzR, nzQ]; omega
  · simp only [RlOk, nzZ, nzO, nzA, nzB, nzR, nzQ]; omega
theorem FxA_ok (hl : Okl n l bs) (hp : p = l.length) (h1 : 3 ≤ B.length) (h2 : (B.length : Int) ≤ m) : @FkOk (V bs l p i B R) (FxA n m) := by
  obtain ⟨_, hl1, hl2, hl3⟩ := hl
  refine @FkOk.mk (V bs l p i B R) (FxA n m) (fun x hx => ?_) (fun x hx => by cases hx) (fun x hx => by cases hx)
  replace hx : x ∈ [Rl.mk kA kO 0 0, .mk kZ kO 1 n, .mk kZ kA 0 n, .mk kZ kB 3 m, .mk kZ kQ 0 1000] := hx
  simp only [List.mem_cons, List.not_mem_nil, or_false] at hx
  rcases hx with rfl | rfl | rfl | rfl | rfl
  · simp only [RlOk, nzZ, nzO, nzA, nzB, nzR, nzQ]; omega
  · simp only [RlOk, nzZ, nzO, nzA, nzB, nzR, nzQ]; omega
  · simp only [RlOk, nzZ, nzO, nzA, nzB, nzR, nzQ]; omega
  · simp only [RlOk, nzZ, nzO, nzA, nzB, nzR, nzQ]; omega
  · simp only [RlOk, nzZ, nzO, nzA, nzB, nzR, nzQ]; omega
theorem FiB_ok (hl : Okl n l bs) (h1 : 3 ≤ B.length) (h2 : (B.length : Int) ≤ m) {rw : List AV} (hr : ∀ j a, rw[j]? = some a → ∃ row, ((V bs l p i B R).l kB)[0 + (0 + j)]? = some row ∧ ∀ μ, @VRs (V bs l p i B R) μ [a] row) (hB : ∀ b ∈ B, 0 ≤ b ∧ b ≤ 255) : @FkOk (V bs l p i B R) (FiB n m rw) := by
  obtain ⟨_, hl1, hl2, hl3⟩ := hl
  refine @FkOk.mk (V bs l p i B R) (FiB n m rw) (fun x hx => ?_) (rows_ok (pos := 0) nzZ rw 0 hr) (u_ok hB)
  replace hx : x ∈ [Rl.mk kZ kB 3 m, .mk kZ kO 1 n, .mk kZ kQ 0 1000] := hx
  simp only [List.mem_cons, List.not_mem_nil, or_false] at hx
  rcases hx with rfl | rfl | rfl
  · simp only [RlOk, nzZ, nzO, nzA, nzB, nzR, nzQ]; omega
  · simp only [RlOk, nzZ, nzO, nzA, nzB, nzR, nzQ]; omega
  · simp only [RlOk, nzZ, nzO, nzA, nzB, nzR, nzQ]; omega
theorem FtB_ok (hl : Okl n l bs) (h1 : 3 ≤ B.length) (h2 : (B.length : Int) ≤ m) (hp : p + 3 ≤ B.length) (h3 : 1 ≤ R.length) (h4 : (R.length : Int) ≤ n) {rw : List AV} (hr : ∀ j a, rw[j]? = some a → ∃ row, ((V bs l p i B R).l kB)[p + (0 + j)]? = some row ∧ ∀ μ, @VRs (V bs l p i B R) μ [a] row) (hB : ∀ b ∈ B, 0 ≤ b ∧ b ≤ 255) : @FkOk (V bs l p i B R) (FtB n m rw) := by
  obtain ⟨_, hl1, hl2, hl3⟩ := hl
  refine @FkOk.mk (V bs l p i B R) (FtB n m rw) (fun x hx => ?_) (rows_ok (pos := p) nzA rw 0 hr) (u_ok hB)
  replace hx : x ∈ [Rl.mk kA kB 3 m, .mk kZ kB 3 m, .mk kZ kO 1 n, .mk kZ kA 0 m, .mk kZ kR 1 n, .mk kZ kQ 0 1000] := hx
  simp only [List.mem_cons, List.not_mem_nil, or_false] at hx
  rcases hx with rfl | rfl | rfl | rfl | rfl | rfl
  · simp only [RlOk, nzZ, nzO, nzA, nzB, nzR, nzQ]; omega
  · simp only [RlOk, nzZ, nzO, nzA, nzB, nzR, nzQ]; omega
  · simp only [RlOk, nzZ, nzO, nzA, nzB, nzR, nzQ]; omega
  · simp only [RlOk, nzZ, nzO, nzA, nzB, nzR, nzQ]; omega
  · simp only [RlOk, nzZ, nzO, nzA, nzB, nzR, nzQ]; omega
  · simp only [RlOk, nzZ, nzO, nzA, nzB, nzR, nzQ]; omega
theorem FxB_ok (hl : Okl n l bs) (h1 : 3 ≤ B.length) (h2 : (B.length : Int) ≤ m) (hp : p = B.length) (h3 : R.length = l.length) (hB : ∀ b ∈ B, 0 ≤ b ∧ b ≤ 255) : @FkOk (V bs l p i B R) (FxB n m) := by
  obtain ⟨_, hl1, hl2, hl3⟩ := hl
  refine @FkOk.mk (V bs l p i B R) (FxB n m) (fun x hx => ?_) (fun x hx => by cases hx) (u_ok hB)
  replace hx : x ∈ [Rl.mk kA kB 0 0, .mk kZ kB 3 m, .mk kZ kO 1 n, .mk kZ kA 0 m, .mk kZ kR 1 n, .mk kZ kQ 0 1000, .mk kR kO 0 0] := hx
  simp only [List.mem_cons, List.not_mem_nil, or_false] at hx
  rcases hx with rfl | rfl | rfl | rfl | rfl | rfl | rfl
  · simp only [RlOk, nzZ, nzO, nzA, nzB, nzR, nzQ]; omega
  · simp only [RlOk, nzZ, nzO, nzA, nzB, nzR, nzQ]; omega
  · simp only [RlOk, nzZ, nzO, nzA, nzB, nzR, nzQ]; omega
  · simp only [RlOk, nzZ, nzO, nzA, nzB, nzR, nzQ]; omega
  · simp only [RlOk, nzZ, nzO, nzA, nzB, nzR, nzQ]; omega
  · simp only [RlOk, nzZ, nzO, nzA, nzB, nzR, nzQ]; omega
  · simp only [RlOk, nzZ, nzO, nzA, nzB, nzR, nzQ]; omega
theorem FxC_ok (hl : Okl n l bs) (hp : p = l.length) (h1 : 3 ≤ B.length) (h2 : (B.length : Int) ≤ m) (h3 : B.length = 3 * l.length) : @FkOk (V bs l p i B R) (FxC n m) := by
  obtain ⟨_, hl1, hl2, hl3⟩ := hl
  refine @FkOk.mk (V bs l p i B R) (FxC n m) (fun x hx => ?_) (fun x hx => by cases hx) (fun x hx => by cases hx)
  replace hx : x ∈ [Rl.mk kA kO 0 0, .mk kZ kO 1 n, .mk kZ kA 0 n, .mk kZ kB 3 m, .mk kZ kQ 0 1000, .mul kO 3 kB 3 m] := hx
  simp only [List.mem_cons, List.not_mem_nil, or_false] at hx
  rcases hx with rfl | rfl | rfl | rfl | rfl | rfl
  · simp only [RlOk, nzZ, nzO, nzA, nzB, nzR, nzQ]; omega
  · simp only [RlOk, nzZ, nzO, nzA, nzB, nzR, nzQ]; omega
  · simp only [RlOk, nzZ, nzO, nzA, nzB, nzR, nzQ]; omega
  · simp only [RlOk, nzZ, nzO, nzA, nzB, nzR, nzQ]; omega
  · simp only [RlOk, nzZ, nzO, nzA, nzB, nzR, nzQ]; omega
  · exact ⟨by show (B.length : Int) = 3 * (l.length : Int); omega, by show (3 : Int) ≤ (B.length : Int); omega, by show (B.length : Int) ≤ m; omega⟩
/-! classes of orders that may be: their bytes, the order -/
structure Fc where
  r : List AV
  o : List AV
  xlo : Int
  xhi : Int
def sN : AV := .sx .i64 kN 0 0 255
def sX : AV := .sx .i64 kX 0 0 255
def f1 : Fc := ⟨[U 0, n0, U 0], [I 1, sN, I 0], mn, mx⟩
def f2 : Nat → Fc
  | 2 => ⟨[U 1, U 2, x0], [I 2, I 3, sX], 0, 255⟩
  | 5 => ⟨[U 1, U 5, x0], [I 2, I 6, sX], 0, 255⟩
  | s => ⟨[U 1, U s, U 0], [I 2, I (s + 1), I 0], mn, mx⟩
def f3 (k t : Nat) : Fc := ⟨[U k, n0, U t], [I (k + 1), sN, .int .i64 ((t : Int) - 1)], mn, mx⟩
def f5 : Fc := ⟨[U 4, U 0, U 0], [I 5, I 0, I 0], mn, mx⟩
def fine : List Fc := [f1, f5] ++ (List.range 6).map f2 ++ (List.range 9).map (f3 2) ++ (List.range 9).map (f3 3)
def Is (v : Val) (a : AV) (x : Value) : Prop := (∀ μ, @VR v μ a x) ∧ ∀ μ y, @VR v μ a y → y = x
theorem is_U {v : Val} {k : Nat} {b : Int} (h : (k : Int) = b) : Is v (U k) (.int .u8 b) := by
  subst h; unfold U
  exact ⟨fun μ => by simp only [VR]; rfl, fun μ y hy => by simp only [VR] at hy; exact hy⟩
theorem is_I {v : Val} {k : Nat} {b : Int} (h : (k : Int) = b) : Is v (I k) (.int .i64 b) := by
  subst h; unfold I
  exact ⟨fun μ => by simp only [VR]; rfl, fun μ y hy => by simp only [VR] at hy; exact hy⟩
theorem is_i {v : Val} {k b : Int} (h : k = b) : Is v (.int .i64 k) (.int .i64 b) := by
  subst h
  exact ⟨fun μ => by simp only [VR], fun μ y hy => by simp only [VR] at hy; exact hy⟩
theorem is_u8 {v : Val} {f : Key} {n : Int} (hn : v.n f = n) (h : 0 ≤ n ∧ n ≤ 255) : Is v (.sx .u8 f 0 0 255) (.int .u8 n) := by
  have hw : IntKind.wrap .u8 n = n := fitW (k := .u8) (lo := 0) (hi := 255) rfl h.1 h.2
  refine ⟨fun μ => ?_, fun μ y hy => ?_⟩
  · simp only [VR]; rw [hn, Int.add_zero, hw]; exact ⟨rfl, h.1, h.2⟩
  · simp only [VR] at hy; rw [hn, Int.add_zero, hw] at hy; exact hy.1
theorem is_s {v : Val} {f : Key} {n : Int} (hn : v.n f = n) (h : 0 ≤ n ∧ n ≤ 255) : Is v (.sx .i64 f 0 0 255) (.int .i64 n) := by
  have hw : IntKind.wrap .i64 n = n := fitW (k := .i64) (lo := 0) (hi := 255) rfl h.1 h.2
  refine ⟨fun μ => ?_, fun μ y hy => ?_⟩
  · simp only [VR]; rw [hn, Int.add_zero, hw]; exact ⟨rfl, h.1, h.2⟩
  · simp only [VR] at hy; rw [hn, Int.add_zero, hw] at hy; exact hy.1
theorem three {v : Val} {μ : Mu} {a b c : AV} {rows : List (List Value)} (h : VRR v μ [[a], [b], [c]] rows) : ∃ x y z, rows = [[x], [y], [z]] ∧ @VR v μ a x ∧ @VR v μ b y ∧ @VR v μ c z := by
  cases h with
  | cons h1 h2 =>
    cases h2 with
    | cons h3 h4 =>
      cases h4 with
      | cons h5 h6 =>
        cases h6
        simp only [VRs] at h1 h3 h5
        obtain ⟨x, _, rfl, a1, rfl⟩ := h1
        obtain ⟨y, _, rfl, a2, rfl⟩ := h3
        obtain ⟨z, _, rfl, a3, rfl⟩ := h5
        exact ⟨x, y, z, rfl, a1, a2, a3⟩
/-- an order is of a class -/
structure FC (f : Fc) (o : Od) : Prop where
  iN : 0 ≤ o.2.1 ∧ o.2.1 ≤ 255
  iX : f.xlo ≤ o.2.2 ∧ o.2.2 ≤ f.xhi
  r : ∀ v : Val, v.n kN = o.2.1 → v.n kX = o.2.2 → ∀ (i : Nat) (a : AV), f.r[i]? = some a → ∃ b, (bytesO o)[i]? = some b ∧ ∀ μ, @VRs v μ [a] (brow b)
  rb : ∀ (v : Val) μ rows, v.n kN = o.2.1 → v.n kX = o.2.2 → VRR v μ (f.r.map fun a => [a]) rows → rows = (bytesO o).map brow
  ov : ∀ (v : Val) μ, v.n kN = o.2.1 → v.n kX = o.2.2 → @VRs v μ f.o (orow o)
  oi : ∀ (v : Val) μ row, v.n kN = o.2.1 → v.n kX = o.2.2 → @VRs v μ f.o row → row = orow o
theorem fc_mk {o : Od} {a b c a' b' c' : AV} {xlo xhi k n x y1 y2 y3 : Int} (ho : o = (k, n, x)) (hb : bytesO o = [y1, y2, y3]) (iN : 0 ≤ n ∧ n ≤ 255) (iX : xlo ≤ x ∧ x ≤ xhi)
    (h : ∀ v : Val, v.n kN = n → v.n kX = x → (Is v a (.int .u8 y1) ∧ Is v b (.int .u8 y2) ∧ Is v c (.int .u8 y3)) ∧ Is v a' (.int .i64 k) ∧ Is v b' (.int .i64 n) ∧ Is v c' (.int .i64 x)) :
    FC ⟨[a, b, c], [a', b', c'], xlo, xhi⟩ o := by
  subst ho
  refine ⟨iN, iX, fun v hN hX i x hi => ?_, fun v μ rows hN hX hr => ?_, fun v μ hN hX => ?_, fun v μ row hN hX hr => ?_⟩
  · obtain ⟨⟨h1, h2, h3⟩, _⟩ := h v hN hX
    have one : ∀ {x : AV} {y : Value}, Is v x y → ∀ μ, @VRs v μ [x] [y] := fun hx μ => @VRs.cons v μ _ _ _ _ (hx.1 μ) (@VRs.nil v μ)
    rw [hb]
    match i, hi with
    | 0, hi => simp at hi; subst hi; exact ⟨_, rfl, one h1⟩
    | 1, hi => simp at hi; subst hi; exact ⟨_, rfl, one h2⟩
    | 2, hi => simp at hi; subst hi; exact ⟨_, rfl, one h3⟩
    | n + 3, hi => simp at hi
  · obtain ⟨⟨h1, h2, h3⟩, _⟩ := h v hN hX
    obtain ⟨x, y, z, rfl, k1, k2, k3⟩ := three hr
    rw [h1.2 μ x k1, h2.2 μ y k2, h3.2 μ z k3, hb]; rfl
  · obtain ⟨_, h1, h2, h3⟩ := h v hN hX
    exact @VRs.cons v μ _ _ _ _ (h1.1 μ) (@VRs.cons v μ _ _ _ _ (h2.1 μ) (@VRs.cons v μ _ _ _ _ (h3.1 μ) (@VRs.nil v μ)))
  · obtain ⟨_, h1, h2, h3⟩ := h v hN hX
    simp only [VRs] at hr
    obtain ⟨x, _, rfl, k1, y, _, rfl, k2, z, _, rfl, k3, rfl⟩ := hr
    rw [h1.2 μ x k1, h2.2 μ y k2, h3.2 μ z k3]; rfl
theorem c2a {s : Nat} {o : Od} (ho : o = (2, (s : Int) + 1, 0)) (hs : s < 6) : FC ⟨[U 1, U s, U 0], [I 2, I (s + 1), I 0], mn, mx⟩ o :=
  fc_mk ho (y1 := 1) (y2 := s) (y3 := 0) (by subst ho; simp [bytesO]) ⟨by omega, by omega⟩ ⟨by decide, by decide⟩ fun v hN hX => ⟨⟨is_U rfl, is_U rfl, is_U rfl⟩, is_I rfl, is_I rfl, is_I rfl⟩
theorem c2b {s : Nat} {o : Od} {x : Int} (ho : o = (2, (s : Int) + 1, x)) (hs : s < 6) (hx : 0 ≤ x ∧ x ≤ 255) : FC ⟨[U 1, U s, x0], [I 2, I (s + 1), sX], 0, 255⟩ o :=
  fc_mk ho (y1 := 1) (y2 := s) (y3 := x) (by subst ho; simp [bytesO]) ⟨by omega, by omega⟩ hx fun v hN hX => ⟨⟨is_U rfl, is_U rfl, is_u8 hX hx⟩, is_I rfl, is_I rfl, is_s hX hx⟩
theorem c3 {k t : Nat} {o : Od} {n : Int} (ho : o = ((k : Int) + 1, n, (t : Int) - 1)) (hk : k = 2 ∨ k = 3) (ht : t < 9) (hn : 0 ≤ n ∧ n ≤ 255) : FC (f3 k t) o :=
  fc_mk ho (y1 := k) (y2 := n) (y3 := t) (by subst ho; rcases hk with rfl | rfl <;> simp [bytesO]) hn ⟨by simp only [mn]; omega, by simp only [mx]; omega⟩ fun v hN hX => ⟨⟨is_U rfl, is_u8 hN hn, is_U rfl⟩, is_I rfl, is_s hN hn, is_i rfl⟩
theorem fine_of {o : Od} (hk : okO o) : ∃ f ∈ fine, FC f o := by
  have m2 : ∀ s, s < 6 → f2 s ∈ fine := fun s hs => List.mem_append_left _ (List.mem_append_left _ (List.mem_append_right _ (List.mem_map_of_mem (List.mem_range.2 hs))))
  have m3 : ∀ t, t < 9 → f3 2 t ∈ fine := fun t ht => List.mem_append_left _ (List.mem_append_right _ (List.mem_map_of_mem (List.mem_range.2 ht)))
  have m4 : ∀ t, t < 9 → f3 3 t ∈ fine := fun t ht => List.mem_append_right _ (List.mem_map_of_mem (List.mem_range.2 ht))
  obtain ⟨k, n, x⟩ := o
  simp only [okO] at hk
  rcases hk with ⟨rfl, a, b, rfl⟩ | ⟨rfl, a, b, c, d, e⟩ | ⟨e, a, b, c, d⟩ | ⟨rfl, rfl, rfl⟩
  · exact ⟨f1, by unfold fine; simp, fc_mk rfl (y1 := 0) (y2 := n) (y3 := 0) (by simp [bytesO]) ⟨a, b⟩ ⟨by decide, by decide⟩ fun v hN hX => ⟨⟨is_U rfl, is_u8 hN ⟨a, b⟩, is_U rfl⟩, is_I rfl, is_s hN ⟨a, b⟩, is_I rfl⟩⟩
  · obtain ⟨s, rfl⟩ : ∃ s : Nat, n = s + 1 := ⟨(n - 1).toNat, by omega⟩
    have hs : s < 6 := by omega
    refine ⟨f2 s, m2 s hs, ?_⟩
    have s6 : s = 0 ∨ s = 1 ∨ s = 2 ∨ s = 3 ∨ s = 4 ∨ s = 5 := by omega
    rcases s6 with rfl | rfl | rfl | rfl | rfl | rfl
    · obtain rfl : x = 0 := by omega
      exact c2a (s := 0) rfl hs
    · obtain rfl : x = 0 := by omega
      exact c2a (s := 1) rfl hs
    · exact c2b (s := 2) rfl hs ⟨c, d⟩
    · obtain rfl : x = 0 := by omega
      exact c2a (s := 3) rfl hs
    · obtain rfl : x = 0 := by omega
      exact c2a (s := 4) rfl hs
    · exact c2b (s := 5) rfl hs ⟨c, d⟩
  · obtain ⟨t, rfl⟩ : ∃ t : Nat, x = t - 1 := ⟨(x + 1).toNat, by omega⟩
    rcases e with rfl | rfl
    · exact ⟨f3 2 t, m3 t (by omega), c3 rfl (.inl rfl) (by omega) ⟨a, b⟩⟩
    · exact ⟨f3 3 t, m4 t (by omega), c3 rfl (.inr rfl) (by omega) ⟨a, b⟩⟩
  · exact ⟨f5, by unfold fine; simp, fc_mk rfl (y1 := 4) (y2 := 0) (y3 := 0) (by simp [bytesO]) ⟨by decide, by decide⟩ ⟨by decide, by decide⟩ fun v hN hX => ⟨⟨is_U rfl, is_U rfl, is_U rfl⟩, is_I rfl, is_I rfl, is_I rfl⟩⟩
/-! how names turn -/
def bzA (n : Int) : List (Key × Int × Int) := [(kO, 1, n), (kQ, 0, 1000), (kN, mn, mx), (kX, mn, mx), (kK, mn, mx)]
def bzB (n m : Int) : List (Key × Int × Int) := (kB, 3, m) :: bzA n
theorem bzA_ok (hl : Okl n l bs) : ∀ x ∈ bzA n, x.2.1 ≤ @nz (V bs l p i B R) x.1 ∧ @nz (V bs l p i B R) x.1 ≤ x.2.2 := by
  intro x hx
  obtain ⟨i1, i2, i3⟩ := in_at (i := i) hl
  obtain ⟨_, h1, h2, h3⟩ := hl
  simp only [bzA, List.mem_cons, List.not_mem_nil, or_false] at hx
  rcases hx with rfl | rfl | rfl | rfl | rfl
  · simp only [nzO]; omega
  · simp only [nzQ]; omega
  · simp only [nzN]; exact i2
  · simp only [nzX]; exact i3
  · simp only [nzK]; exact i1
theorem bzB_ok (hl : Okl n l bs) (h1 : 3 ≤ B.length) (h2 : (B.length : Int) ≤ m) : ∀ x ∈ bzB n m, x.2.1 ≤ @nz (V bs l p i B R) x.1 ∧ @nz (V bs l p i B R) x.1 ≤ x.2.2 := by
  intro x hx
  rcases List.mem_cons.1 hx with rfl | hx
  · simp only [nzB]; omega
  · exact bzA_ok hl x hx
def sg0 (n m : Int) : Sg := .mk [.mk kO kO 0 1 n, .mk kQ kQ 0 0 1000] [(kO, kO), (kQ, kQ)] [] (bzA n)
theorem sg0_ok (hl : Okl n l bs)  : SgOk (V bs l 0 0 [] []) (V bs l 0 0 [] []) (sg0 n m) := by
  have hl0 := hl
  obtain ⟨_, hl1, hl2, hl3⟩ := hl0
  refine ⟨fun x hx => ?_, fun x hx => ?_, rfl, bzA_ok hl⟩
  · simp only [sg0, Sg.ns, List.mem_cons, List.not_mem_nil, or_false] at hx
    rcases hx with rfl | rfl <;> simp only [NnOk, nzA, nzO, nzB, nzR, nzQ, nzZ, List.length_append, List.length_cons, List.length_nil, bytesO] <;> omega
  · simp only [sg0, Sg.ls, List.mem_cons, List.not_mem_nil, or_false] at hx
    rcases hx with rfl | rfl <;> rfl
def sgFA (n m : Int) (f : Key) : Sg := .mk [.mk kA kZ 1 0 n, .mk kB kZ 3 3 m, .mk kO kO 0 1 n, .mk kQ kQ 0 0 1000] [(kO, kO), (kQ, kQ)] [(f, 0, 1)] (bzA n)
theorem sgFA_ok (hl : Okl n l bs) (f : Key) (o : Od) (hm : 3 ≤ m) : SgOk (V bs l 0 0 [] []) (V bs l 1 1 (bytesO o) []) (sgFA n m f) := by
  have hl0 := hl
  obtain ⟨_, hl1, hl2, hl3⟩ := hl0
  refine ⟨fun x hx => ?_, fun x hx => ?_, rfl, bzA_ok hl⟩
  · simp only [sgFA, Sg.ns, List.mem_cons, List.not_mem_nil, or_false] at hx
    rcases hx with rfl | rfl | rfl | rfl <;> simp only [NnOk, nzA, nzO, nzB, nzR, nzQ, nzZ, List.length_append, List.length_cons, List.length_nil, bytesO] <;> omega
  · simp only [sgFA, Sg.ls, List.mem_cons, List.not_mem_nil, or_false] at hx
    rcases hx with rfl | rfl <;> rfl
def sgTA (n m : Int) (f : Key) : Sg := .mk [.mk kA kA 1 0 n, .mk kB kB 3 3 m, .mk kO kO 0 1 n, .mk kQ kQ 0 0 1000] [(kO, kO), (kQ, kQ)] [(f, 2, 1)] (bzA n)
theorem sgTA_ok (hl : Okl n l bs) (f : Key) (o : Od) (hp : p < l.length) (h2 : (B.length : Int) + 3 ≤ m) : SgOk (V bs l p p B []) (V bs l (p + 1) (p + 1) (B ++ bytesO o) []) (sgTA n m f) := by
  have hl0 := hl
  obtain ⟨_, hl1, hl2, hl3⟩ := hl0
  refine ⟨fun x hx => ?_, fun x hx => ?_, rfl, bzA_ok hl⟩
  · simp only [sgTA, Sg.ns, List.mem_cons, List.not_mem_nil, or_false] at hx
    rcases hx with rfl | rfl | rfl | rfl <;> simp only [NnOk, nzA, nzO, nzB, nzR, nzQ, nzZ, List.length_append, List.length_cons, List.length_nil, bytesO] <;> omega
  · simp only [sgTA, Sg.ls, List.mem_cons, List.not_mem_nil, or_false] at hx
    rcases hx with rfl | rfl <;> rfl
def sgB0 (n m : Int) : Sg := .mk [.mk kO kO 0 1 n, .mk kQ kQ 0 0 1000, .mk kB kB 0 3 m] [(kO, kO), (kQ, kQ), (kB, kB)] [] (bzB n m)
theorem sgB0_ok (hl : Okl n l bs) (h1 : 3 ≤ B.length) (h2 : (B.length : Int) ≤ m) : SgOk (V bs l p i B []) (V bs l 0 0 B []) (sgB0 n m) := by
  have hl0 := hl
  obtain ⟨_, hl1, hl2, hl3⟩ := hl0
  refine ⟨fun x hx => ?_, fun x hx => ?_, rfl, bzB_ok hl h1 h2⟩
  · simp only [sgB0, Sg.ns, List.mem_cons, List.not_mem_nil, or_false] at hx
    rcases hx with rfl | rfl | rfl <;> simp only [NnOk, nzA, nzO, nzB, nzR, nzQ, nzZ, List.length_append, List.length_cons, List.length_nil, bytesO] <;> omega
  · simp only [sgB0, Sg.ls, List.mem_cons, List.not_mem_nil, or_false] at hx
    rcases hx with rfl | rfl | rfl <;> rfl
def sgFB (n m : Int) (f : Key) : Sg := .mk [.mk kA kZ 3 0 m, .mk kR kZ 1 1 n, .mk kO kO 0 1 n, .mk kQ kQ 0 0 1000, .mk kB kB 0 3 m] [(kO, kO), (kQ, kQ), (kB, kB)] [(f, 0, 1)] (bzB n m)
theorem sgFB_ok (hl : Okl n l bs) (f : Key) (o : Od) (h1 : 3 ≤ B.length) (h2 : (B.length : Int) ≤ m) : SgOk (V bs l 0 0 B []) (V bs l 3 1 B [o]) (sgFB n m f) := by
  have hl0 := hl
  obtain ⟨_, hl1, hl2, hl3⟩ := hl0
  refine ⟨fun x hx => ?_, fun x hx => ?_, rfl, bzB_ok hl h1 h2⟩
  · simp only [sgFB, Sg.ns, List.mem_cons, List.not_mem_nil, or_false] at hx
    rcases hx with rfl | rfl | rfl | rfl | rfl <;> simp only [NnOk, nzA, nzO, nzB, nzR, nzQ, nzZ, List.length_append, List.length_cons, List.length_nil, bytesO] <;> omega
  · simp only [sgFB, Sg.ls, List.mem_cons, List.not_mem_nil, or_false] at hx
    rcases hx with rfl | rfl | rfl <;> rfl
def sgTB (n m : Int) (f : Key) : Sg := .mk [.mk kA kA 3 0 m, .mk kR kR 1 1 n, .mk kO kO 0 1 n, .mk kQ kQ 0 0 1000, .mk kB kB 0 3 m] [(kO, kO), (kQ, kQ), (kB, kB)] [(f, 2, 1)] (bzB n m)
theorem sgTB_ok (hl : Okl n l bs) (f : Key) (o : Od) (h1 : 3 ≤ B.length) (h2 : (B.length : Int) ≤ m) (hp : p + 3 ≤ B.length) (h3 : (R.length : Int) + 1 ≤ n) : SgOk (V bs l p i B R) (V bs l (p + 3) (i + 1) B (R ++ [o])) (sgTB n m f) := by
  have hl0 := hl
  obtain ⟨_, hl1, hl2, hl3⟩ := hl0
  refine ⟨fun x hx => ?_, fun x hx => ?_, rfl, bzB_ok hl h1 h2⟩
  · simp only [sgTB, Sg.ns, List.mem_cons, List.not_mem_nil, or_false] at hx
    rcases hx with rfl | rfl | rfl | rfl | rfl <;> simp only [NnOk, nzA, nzO, nzB, nzR, nzQ, nzZ, List.length_append, List.length_cons, List.length_nil, bytesO] <;> omega
  · simp only [sgTB, Sg.ls, List.mem_cons, List.not_mem_nil, or_false] at hx
    rcases hx with rfl | rfl | rfl <;> rfl
def sgC0 (n m : Int) : Sg := .mk [.mk kA kZ 0 0 n, .mk kO kR 0 1 n, .mk kO kO 0 1 n, .mk kQ kQ 0 0 1000, .mk kB kB 0 3 m] [(kO, kO), (kQ, kQ), (kB, kB), (kO, kR)] [] (bzB n m)
theorem sgC0_ok (hl : Okl n l bs) (h1 : 3 ≤ B.length) (h2 : (B.length : Int) ≤ m) : SgOk (V bs l p i B l) (V bs l 0 0 B []) (sgC0 n m) := by
  have hl0 := hl
  obtain ⟨_, hl1, hl2, hl3⟩ := hl0
  refine ⟨fun x hx => ?_, fun x hx => ?_, rfl, bzB_ok hl h1 h2⟩
  · simp only [sgC0, Sg.ns, List.mem_cons, List.not_mem_nil, or_false] at hx
    rcases hx with rfl | rfl | rfl | rfl | rfl <;> simp only [NnOk, nzA, nzO, nzB, nzR, nzQ, nzZ, List.length_append, List.length_cons, List.length_nil, bytesO] <;> omega
  · simp only [sgC0, Sg.ls, List.mem_cons, List.not_mem_nil, or_false] at hx
    rcases hx with rfl | rfl | rfl | rfl <;> rfl
def sgTC (n m : Int) : Sg := .mk [.mk kA kA 1 0 n, .mk kO kO 0 1 n, .mk kQ kQ 0 0 1000, .mk kB kB 0 3 m] [(kO, kO), (kQ, kQ), (kB, kB)] [] (bzB n m)
theorem sgTC_ok (hl : Okl n l bs) (hp : p < l.length) (h1 : 3 ≤ B.length) (h2 : (B.length : Int) ≤ m) : SgOk (V bs l p p B []) (V bs l (p + 1) (p + 1) B []) (sgTC n m) := by
  have hl0 := hl
  obtain ⟨_, hl1, hl2, hl3⟩ := hl0
  refine ⟨fun x hx => ?_, fun x hx => ?_, rfl, bzB_ok hl h1 h2⟩
  · simp only [sgTC, Sg.ns, List.mem_cons, List.not_mem_nil, or_false] at hx
    rcases hx with rfl | rfl | rfl | rfl <;> simp only [NnOk, nzA, nzO, nzB, nzR, nzQ, nzZ, List.length_append, List.length_cons, List.length_nil, bytesO] <;> omega
  · simp only [sgTC, Sg.ls, List.mem_cons, List.not_mem_nil, or_false] at hx
    rcases hx with rfl | rfl | rfl <;> rfl
/-- between the halves: the bytes alone -/
def sgM : Sg := .mk [.mk kQ kQ 0 0 1000] [(kQ, kQ)] [] [(kQ, 0, 1000)]
theorem sgM_ok (h : (bs.length : Int) ≤ 1000) : SgOk (V bs l p i B R) (V bs [] 0 0 [] []) sgM := by
  refine ⟨fun x hx => ?_, fun x hx => ?_, rfl, fun x hx => ?_⟩
  · obtain rfl := List.mem_singleton.1 hx
    simp only [NnOk, nzQ]; omega
  · obtain rfl := List.mem_singleton.1 hx
    rfl
  · obtain rfl := List.mem_singleton.1 hx
    simp only [nzQ]; omega
def sgD0 : Sg := .mk [.mk Rd.kQ kQ 0 1 1000] [(Rd.kQ, kQ)] [] Rd.bz
theorem sgD0_ok (hb : Rd.Okb bs) : SgOk (V bs [] 0 0 [] []) (Rd.V bs 0 [] []) sgD0 := by
  have h1 := hb.2
  refine ⟨fun x hx => ?_, fun x hx => ?_, rfl, Rd.bz_ok hb⟩
  · obtain rfl := List.mem_singleton.1 hx
    simp only [NnOk, nzQ, Rd.nzQ]; omega
  · obtain rfl := List.mem_singleton.1 hx
    rfl
def sgE0 : Sg := .mk [.mk kO Rd.kL 0 1 334, .mk kQ Rd.kQ 0 0 1000] [(kO, Rd.kL), (kQ, Rd.kQ)] [] (bzA 334)
theorem sgE0_ok {L : List Od} (hl : Okl 334 L bs) : SgOk (Rd.V bs p L []) (V bs L 0 0 [] []) sgE0 := by
  have hl0 := hl
  obtain ⟨_, hl1, hl2, hl3⟩ := hl0
  refine ⟨fun x hx => ?_, fun x hx => ?_, rfl, bzA_ok hl⟩
  · simp only [sgE0, Sg.ns, List.mem_cons, List.not_mem_nil, or_false] at hx
    rcases hx with rfl | rfl
    · simp only [NnOk, nzO, Rd.nzL]; omega
    · simp only [NnOk, nzQ, Rd.nzQ]; omega
  · simp only [sgE0, Sg.ls, List.mem_cons, List.not_mem_nil, or_false] at hx
    rcases hx with rfl | rfl <;> rfl
/-! how lists grow -/
def exp (f : Fc) : List (List AV) := f.r.map fun a => [a]
theorem brow_len (B : List Int) : ∀ row ∈ B.map brow, row.length = 1 := by
  intro row h
  obtain ⟨o, _, rfl⟩ := List.mem_map.1 h
  rfl
theorem orow_len (L : List Od) : ∀ row ∈ L.map orow, row.length = 3 := by
  intro row h
  obtain ⟨o, _, rfl⟩ := List.mem_map.1 h
  rfl
theorem newA (f : Key) {c : Fc} (hc : FC c (l.getD 0 (0, 0, 0))) : GrOk (V bs l 0 0 [] []) (V bs l 1 1 (bytesO (l.getD 0 (0, 0, 0))) []) (.new f kB 1 (exp c)) :=
  ⟨(by rw [nzB, lB, List.length_map]), brow_len _, fun μ rows h => by rw [hc.rb _ μ rows rfl rfl h]; rfl⟩
theorem growA (f : Key) {c : Fc} (hc : FC c (l.getD p (0, 0, 0))) : GrOk (V bs l p p B []) (V bs l (p + 1) (p + 1) (B ++ bytesO (l.getD p (0, 0, 0))) []) (.grow f kB kB 1 (exp c)) :=
  ⟨(by rw [nzB, lB, List.length_map]), brow_len _, fun μ rows h => by rw [hc.rb _ μ rows rfl rfl h, lB, lB, List.map_append]⟩
theorem newB (f : Key) {c : Fc} (hc : FC c (l.getD 0 (0, 0, 0))) : GrOk (V bs l 0 0 B []) (V bs l 3 1 B [l.getD 0 (0, 0, 0)]) (.new f kR 3 [c.o]) :=
  ⟨(by rw [nzR, lR, List.length_map]), orow_len _, fun μ rows h => by obtain ⟨row, rfl, h1⟩ := Rd.one_inv h; rw [hc.oi _ μ row rfl rfl h1]; rfl⟩
theorem growB (f : Key) {c : Fc} (hc : FC c (l.getD i (0, 0, 0))) : GrOk (V bs l p i B R) (V bs l (p + 3) (i + 1) B (R ++ [l.getD i (0, 0, 0)])) (.grow f kR kR 3 [c.o]) :=
  ⟨(by rw [nzR, lR, List.length_map]), orow_len _, fun μ rows h => by obtain ⟨row, rfl, h1⟩ := Rd.one_inv h; rw [hc.oi _ μ row rfl rfl h1, lR, lR, List.map_append]; rfl⟩
theorem bytesO_ok {o : Od} (h : okO o) : ∀ b ∈ bytesO o, 0 ≤ b ∧ b ≤ 255 := by
  intro b hb
  simp only [bytesO, List.mem_cons, List.not_mem_nil, or_false] at hb
  unfold okO at h
  rcases hb with rfl | rfl | rfl
  · omega
  · split <;> omega
  · split <;> omega
/-- three bytes lie where their order says -/
theorem bytes_at : ∀ (l : List Od) (i : Nat), i < l.length → ∀ j, j < 3 → (bytes l)[3 * i + j]? = (bytesO (l.getD i (0, 0, 0)))[j]?
  | [], _, h, _, _ => absurd h (Nat.not_lt_zero _)
  | o :: l, 0, _, j, hj => by
    show (bytesO o ++ bytes l)[3 * 0 + j]? = (bytesO o)[j]?
    rw [Nat.mul_zero, Nat.zero_add, List.getElem?_append_left (by show j < 3; exact hj)]
  | o :: l, i + 1, h, j, hj => by
    show (bytesO o ++ bytes l)[3 * (i + 1) + j]? = (bytesO (l.getD i (0, 0, 0)))[j]?
    rw [List.getElem?_append_right (by show 3 ≤ _; omega), show 3 * (i + 1) + j - (bytesO o).length = 3 * i + j from by show 3 * (i + 1) + j - 3 = _; omega]
    exact bytes_at l i (by simpa using h) j hj
theorem rowsB_ok {q : Nat} (hi : i < l.length) (hB : B = bytes l) (hq : q = 3 * i) {c : Fc} (hc : FC c (l.getD i (0, 0, 0))) : ∀ j a, c.r[j]? = some a → ∃ row, ((V bs l p i B R).l kB)[q + (0 + j)]? = some row ∧ ∀ μ, @VRs (V bs l p i B R) μ [a] row := by
  intro j a ha
  obtain ⟨b, hb, hv⟩ := hc.r (V bs l p i B R) rfl rfl j a ha
  refine ⟨brow b, ?_, hv⟩
  have hj : j < 3 := by
    have := (List.getElem?_eq_some_iff.1 hb).1
    simpa [bytesO] using this
  rw [lB, List.getElem?_map, hB, hq, Nat.zero_add, bytes_at l i hi j hj, hb]; rfl
end
end
end Back
end Go.Proofs.YtadnhmpkfelofaaGreatDoor
