/- ScriptChecks: which orders may be, and their bytes; the names of a run, what they stand for, how they turn from round to round. -/
import Derived.Test.YtlhkmfgoebgljaaGreatDoorEv12
import Derived.KernelRfl
set_option warn.classDefReducibility false
set_option linter.unusedVariables false
set_option linter.unusedSectionVars false
set_option linter.unusedSimpArgs false
open Go Go.Ev
namespace Go.Proofs.YtlhkmfgoebgljaaGreatDoor
namespace Checks
noncomputable section
/-! names -/
def kO : Key := .mk .d0 .d0 .d0 .d2 .d4
def kA : Key := .mk .d0 .d0 .d0 .d2 .d5
def kN : Key := .mk .d0 .d0 .d0 .d2 .d6
def kX : Key := .mk .d0 .d0 .d0 .d2 .d7
def kK : Key := .mk .d0 .d0 .d0 .d3 .d0
def kB : Key := .mk .d0 .d0 .d0 .d3 .d1
def kW : Key := .mk .d0 .d0 .d0 .d3 .d2
def kF : Key := .mk .d0 .d0 .d0 .d3 .d3
abbrev mn : Int := -9223372036854775808
abbrev mx : Int := 9223372036854775807
/-- a class of orders: what the kind is, what the numbers lie between, may it be, its bytes -/
structure Cs where
  k : AV
  ivK : Int × Int
  ivN : Int × Int
  ivX : Int × Int
  bs : List AV
def cV (k a b c d : Int) (bs : List AV) : Cs := ⟨.int .i64 k, (mn, mx), (a, b), (c, d), bs⟩
def bads (k a b c d : Int) : List Cs := [cV k mn (a - 1) mn mx [], cV k (b + 1) mx mn mx [], cV k a b mn (c - 1) [], cV k a b (d + 1) mx []]
def n0 : AV := .sx .u8 kN 0 0 255
def n1 : AV := .sx .u8 kN (-1) 0 254
def x0 : AV := .sx .u8 kX 0 0 255
def x1 : AV := .sx .u8 kX 1 0 8
def v1 : Cs := cV 1 0 255 0 0 [U 0, n0, U 0]
def v2a : Cs := cV 2 1 2 0 0 [U 1, n1, U 0]
def v2b : Cs := cV 2 3 3 0 255 [U 1, U 2, x0]
def v2c : Cs := cV 2 4 5 0 0 [U 1, n1, U 0]
def v2d : Cs := cV 2 6 6 0 255 [U 1, U 5, x0]
def v3 : Cs := cV 3 0 255 (-1) 7 [U 2, n0, x1]
def v4 : Cs := cV 4 0 255 (-1) 7 [U 3, n0, x1]
def v5 : Cs := cV 5 0 0 0 0 [U 4, U 0, U 0]
def goods : List Cs := [v1, v2a, v2b, v2c, v2d, v3, v4, v5]
def kLo : Cs := ⟨.sx .i64 kK 0 mn 0, (mn, 0), (mn, mx), (mn, mx), []⟩
def kHi : Cs := ⟨.sx .i64 kK 0 6 mx, (6, mx), (mn, mx), (mn, mx), []⟩
def falls : List Cs := bads 1 0 255 0 0 ++ [cV 2 1 2 1 255 [], cV 2 4 5 1 255 []] ++ bads 2 1 6 0 255 ++ bads 3 0 255 (-1) 7 ++ bads 4 0 255 (-1) 7 ++ bads 5 0 0 0 0 ++ [kLo, kHi]
/-! orders and their bytes -/
abbrev Od := Int × Int × Int
def orow (o : Od) : List Value := [.int .i64 o.1, .int .i64 o.2.1, .int .i64 o.2.2]
def brow (b : Int) : List Value := [.int .u8 b]
def okO (o : Od) : Prop := (o.1 = 1 ∧ 0 ≤ o.2.1 ∧ o.2.1 ≤ 255 ∧ o.2.2 = 0) ∨ (o.1 = 2 ∧ 1 ≤ o.2.1 ∧ o.2.1 ≤ 6 ∧ 0 ≤ o.2.2 ∧ o.2.2 ≤ 255 ∧ (o.2.1 = 3 ∨ o.2.1 = 6 ∨ o.2.2 = 0)) ∨
  ((o.1 = 3 ∨ o.1 = 4) ∧ 0 ≤ o.2.1 ∧ o.2.1 ≤ 255 ∧ -1 ≤ o.2.2 ∧ o.2.2 ≤ 7) ∨ (o.1 = 5 ∧ o.2.1 = 0 ∧ o.2.2 = 0)
def bytesO (o : Od) : List Int := [o.1 - 1, o.2.1 - (if o.1 = 2 then 1 else 0), o.2.2 + (if o.1 = 3 ∨ o.1 = 4 then 1 else 0)]
def bytes (l : List Od) : List Int := l.flatMap bytesO
theorem bytes_length : ∀ l : List Od, (bytes l).length = 3 * l.length
  | [] => rfl
  | o :: l => by have := bytes_length l; simp only [bytes, List.flatMap_cons, List.length_append, List.length_cons, bytesO, List.length_nil] at this ⊢; omega
/-- what the names stand for: the orders, a place, bytes -/
@[reducible] def V (l : List Od) (p : Nat) (B W : List Int) : Val :=
  ⟨fun k => bif Key.beq k kO then l.length else bif Key.beq k kA then p else bif Key.beq k kK then (l.getD p (0, 0, 0)).1 else bif Key.beq k kN then (l.getD p (0, 0, 0)).2.1
    else bif Key.beq k kX then (l.getD p (0, 0, 0)).2.2 else bif Key.beq k kB then B.length else W.length,
   fun k => bif Key.beq k kO then l.map orow else bif Key.beq k kB then B.map brow else bif Key.beq k kW then W.map brow else []⟩
section
variable {l : List Od} {p : Nat} {B W : List Int}
theorem nzZ : @nz (V l p B W) kZ = 0 := @nz_kZ (V l p B W)
theorem nzO : @nz (V l p B W) kO = (l.length : Int) := @nz_ne (V l p B W) kO rfl
theorem nzA : @nz (V l p B W) kA = (p : Int) := @nz_ne (V l p B W) kA rfl
theorem nzB : @nz (V l p B W) kB = (B.length : Int) := @nz_ne (V l p B W) kB rfl
theorem nzW : @nz (V l p B W) kW = (W.length : Int) := @nz_ne (V l p B W) kW rfl
theorem nzK : @nz (V l p B W) kK = (l.getD p (0, 0, 0)).1 := @nz_ne (V l p B W) kK rfl
theorem nzN : @nz (V l p B W) kN = (l.getD p (0, 0, 0)).2.1 := @nz_ne (V l p B W) kN rfl
theorem nzX : @nz (V l p B W) kX = (l.getD p (0, 0, 0)).2.2 := @nz_ne (V l p B W) kX rfl
theorem lO : (V l p B W).l kO = l.map orow := rfl
theorem lB : (V l p B W).l kB = B.map brow := rfl
theorem lW : (V l p B W).l kW = W.map brow := rfl
def In (o : Od) : Prop := (mn ≤ o.1 ∧ o.1 ≤ mx) ∧ (mn ≤ o.2.1 ∧ o.2.1 ≤ mx) ∧ (mn ≤ o.2.2 ∧ o.2.2 ≤ mx)
/-- the orders that come in: not none, not too many -/
def Okl (l : List Od) : Prop := (∀ o ∈ l, In o) ∧ 1 ≤ l.length ∧ l.length ≤ 300
theorem in_at (hl : Okl l) : In (l.getD p (0, 0, 0)) := by
  rw [List.getD_eq_getElem?_getD]
  cases hi : l[p]? with
  | none => exact ⟨⟨by decide, by decide⟩, ⟨by decide, by decide⟩, ⟨by decide, by decide⟩⟩
  | some o => exact hl.1 o (List.mem_of_getElem? hi)
/-- is an order of a class? -/
def Cov (c : Cs) (o : Od) : Prop := (c.ivK.1 ≤ o.1 ∧ o.1 ≤ c.ivK.2) ∧ (c.ivN.1 ≤ o.2.1 ∧ o.2.1 ≤ c.ivN.2) ∧ (c.ivX.1 ≤ o.2.2 ∧ o.2.2 ≤ c.ivX.2) ∧ (c.k = .int .i64 o.1 ∨ c.k = .sx .i64 kK 0 c.ivK.1 c.ivK.2)
theorem cov_V {k a b c d : Int} {bs : List AV} {o : Od} (h : In o) (hk : o.1 = k) (h1 : a ≤ o.2.1) (h2 : o.2.1 ≤ b) (h3 : c ≤ o.2.2) (h4 : o.2.2 ≤ d) : Cov (cV k a b c d bs) o :=
  ⟨h.1, ⟨h1, h2⟩, ⟨h3, h4⟩, .inl (by rw [hk]; rfl)⟩
theorem good_of {o : Od} (h : In o) (hk : okO o) : ∃ c ∈ goods, Cov c o := by
  rcases hk with ⟨e, a, b, c⟩ | ⟨e, a, b, c, d, f⟩ | ⟨e | e, a, b, c, d⟩ | ⟨e, a, b⟩
  · exact ⟨v1, by simp [goods], cov_V h e a b (by omega) (by omega)⟩
  · by_cases h3 : o.2.1 = 3
    · exact ⟨v2b, by simp [goods], cov_V h e (by omega) (by omega) c d⟩
    · by_cases h6 : o.2.1 = 6
      · exact ⟨v2d, by simp [goods], cov_V h e (by omega) (by omega) c d⟩
      · by_cases h2 : o.2.1 ≤ 2
        · exact ⟨v2a, by simp [goods], cov_V h e a h2 (by omega) (by omega)⟩
        · exact ⟨v2c, by simp [goods], cov_V h e (by omega) (by omega) (by omega) (by omega)⟩
  · exact ⟨v3, by simp [goods], cov_V h e a b c d⟩
  · exact ⟨v4, by simp [goods], cov_V h e a b c d⟩
  · exact ⟨v5, by simp [goods], cov_V h e (by omega) (by omega) (by omega) (by omega)⟩
theorem bad_of {o : Od} (h : In o) {k a b c d : Int} (hk : o.1 = k) (hn : ¬ (a ≤ o.2.1 ∧ o.2.1 ≤ b ∧ c ≤ o.2.2 ∧ o.2.2 ≤ d)) : ∃ x ∈ bads k a b c d, Cov x o := by
  have h0 := h
  obtain ⟨_, ⟨i1, i2⟩, ⟨i3, i4⟩⟩ := h0
  by_cases h1 : o.2.1 < a
  · exact ⟨_, List.mem_cons_self .., cov_V h hk i1 (by omega) i3 i4⟩
  · by_cases h2 : b < o.2.1
    · exact ⟨_, List.mem_cons_of_mem _ (List.mem_cons_self ..), cov_V h hk (by omega) i2 i3 i4⟩
    · by_cases h3 : o.2.2 < c
      · exact ⟨_, List.mem_cons_of_mem _ (List.mem_cons_of_mem _ (List.mem_cons_self ..)), cov_V h hk (by omega) (by omega) i3 (by omega)⟩
      · exact ⟨_, List.mem_cons_of_mem _ (List.mem_cons_of_mem _ (List.mem_cons_of_mem _ (List.mem_cons_self ..))), cov_V h hk (by omega) (by omega) (by omega) i4⟩
theorem fall_of {o : Od} (h : In o) (hk : ¬ okO o) : ∃ c ∈ falls, Cov c o := by
  have h' := h
  obtain ⟨⟨i1, i2⟩, ⟨i3, i4⟩, ⟨i5, i6⟩⟩ := h'
  unfold okO at hk
  have put : ∀ {k a b c d : Int}, (∀ x ∈ bads k a b c d, x ∈ falls) → o.1 = k → ¬ (a ≤ o.2.1 ∧ o.2.1 ≤ b ∧ c ≤ o.2.2 ∧ o.2.2 ≤ d) → ∃ c ∈ falls, Cov c o := by
    intro k a b c d hs e hn
    obtain ⟨x, h1, h2⟩ := bad_of h e hn
    exact ⟨x, hs x h1, h2⟩
  by_cases k0 : o.1 ≤ 0
  · exact ⟨kLo, by simp [falls], ⟨⟨i1, k0⟩, ⟨i3, i4⟩, ⟨i5, i6⟩, .inr rfl⟩⟩
  by_cases k6 : 6 ≤ o.1
  · exact ⟨kHi, by simp [falls], ⟨⟨k6, i2⟩, ⟨i3, i4⟩, ⟨i5, i6⟩, .inr rfl⟩⟩
  have cases5 : o.1 = 1 ∨ o.1 = 2 ∨ o.1 = 3 ∨ o.1 = 4 ∨ o.1 = 5 := by omega
  rcases cases5 with e | e | e | e | e
  · exact put (k := 1) (a := 0) (b := 255) (c := 0) (d := 0) (fun x hx => by simp only [falls, List.mem_append]; simp [hx]) e (by omega)
  · by_cases hin : 1 ≤ o.2.1 ∧ o.2.1 ≤ 6 ∧ 0 ≤ o.2.2 ∧ o.2.2 ≤ 255
    · by_cases h2 : o.2.1 ≤ 2
      · exact ⟨cV 2 1 2 1 255 [], by simp [falls], cov_V h e (by omega) h2 (by omega) (by omega)⟩
      · exact ⟨cV 2 4 5 1 255 [], by simp [falls], cov_V h e (by omega) (by omega) (by omega) (by omega)⟩
    · exact put (k := 2) (a := 1) (b := 6) (c := 0) (d := 255) (fun x hx => by simp only [falls, List.mem_append]; simp [hx]) e hin
  · exact put (k := 3) (a := 0) (b := 255) (c := -1) (d := 7) (fun x hx => by simp only [falls, List.mem_append]; simp [hx]) e (by omega)
  · exact put (k := 4) (a := 0) (b := 255) (c := -1) (d := 7) (fun x hx => by simp only [falls, List.mem_append]; simp [hx]) e (by omega)
  · exact put (k := 5) (a := 0) (b := 0) (c := 0) (d := 0) (fun x hx => by simp only [falls, List.mem_append]; simp [hx]) e (by omega)
def row (c : Cs) : List AV := [c.k, .sx .i64 kN 0 c.ivN.1 c.ivN.2, .sx .i64 kX 0 c.ivX.1 c.ivX.2]
theorem sx64 {V : Val} {f : Key} {lo hi n : Int} (hn : V.n f = n) (w : mn ≤ n ∧ n ≤ mx) (h : lo ≤ n ∧ n ≤ hi) (μ : Mu) : @VR V μ (.sx .i64 f 0 lo hi) (.int .i64 n) := by
  simp only [VR]
  rw [hn, Int.add_zero, fitW (k := .i64) (lo := mn) (hi := mx) rfl w.1 w.2]
  exact ⟨rfl, h.1, h.2⟩
theorem row_vr (hl : Okl l) {c : Cs} (hc : Cov c (l.getD p (0, 0, 0))) (μ : Mu) : @VRs (V l p B W) μ (row c) (orow (l.getD p (0, 0, 0))) := by
  obtain ⟨i1, i2, i3⟩ := in_at (p := p) hl
  obtain ⟨c1, c2, c3, c4⟩ := hc
  refine @VRs.cons (V l p B W) μ _ _ _ _ ?_ (@VRs.cons (V l p B W) μ _ _ _ _ (sx64 rfl i2 c2 μ) (@VRs.cons (V l p B W) μ _ _ _ _ (sx64 rfl i3 c3 μ) (@VRs.nil (V l p B W) μ)))
  rcases c4 with c4 | c4
  · rw [c4]; simp only [VR]
  · rw [c4]; exact sx64 rfl i1 c1 μ
theorem row_ok (hl : Okl l) (hp : p < l.length) {k : Key} (hk : @nz (V l p B W) k = (p : Int)) {c : Cs} (hc : Cov c (l.getD p (0, 0, 0))) : @RfOk (V l p B W) (.mk kO k 0 (row c)) := by
  have he : l[p]? = some l[p] := List.getElem?_eq_getElem hp
  have hd : l.getD p (0, 0, 0) = l[p] := by rw [List.getD_eq_getElem?_getD, he]; rfl
  exact ⟨p, orow (l.getD p (0, 0, 0)), by rw [hk]; simp, by rw [lO, List.getElem?_map, he, hd]; rfl, row_vr hl hc⟩
/-! what is known of names in a run -/
def Fi (c : Cs) : Fk := ⟨[.mk kZ kO 1 300], [.mk kO kZ 0 (row c)], []⟩
def Ft (c : Cs) : Fk := ⟨[.mk kA kO 1 300, .mk kZ kO 1 300, .mk kZ kA 0 300], [.mk kO kA 0 (row c)], []⟩
def Fx : Fk := ⟨[.mk kA kO 0 0, .mk kZ kO 1 300, .mk kZ kA 0 300], [], []⟩
def Ft2 (c : Cs) : Fk := ⟨[.mk kA kO 1 300, .mk kZ kO 1 300, .mk kZ kA 0 300, .mk kZ kB 3 900], [.mk kO kA 0 (row c)], []⟩
def Fx2 : Fk := ⟨[.mk kA kO 0 0, .mk kZ kO 1 300, .mk kZ kA 0 300, .mk kZ kB 3 900], [], []⟩
def Fi3 (c : Cs) : Fk := ⟨[.mk kZ kO 1 300, .mk kZ kB 3 900], [.mk kO kZ 0 (row c)], []⟩
def Ft3 (c : Cs) : Fk := ⟨[.mk kA kO 1 300, .mk kZ kO 1 300, .mk kZ kA 0 300, .mk kZ kB 3 900, .mk kZ kW 3 900], [.mk kO kA 0 (row c)], []⟩
def Ft3e (c : Cs) : Fk := ⟨[.mk kA kO 1 300, .mk kZ kO 1 300, .mk kZ kA 0 300, .mk kZ kW 3 900], [.mk kO kA 0 (row c)], []⟩
def Fx3 : Fk := ⟨[.mk kA kO 0 0, .mk kZ kO 1 300, .mk kZ kA 0 300, .mk kZ kB 3 900], [], [kB]⟩
def all : Cs := ⟨.sx .i64 kK 0 mn mx, (mn, mx), (mn, mx), (mn, mx), []⟩
theorem all_cov {o : Od} (h : In o) : Cov all o := ⟨h.1, h.2.1, h.2.2, .inr rfl⟩
theorem fi_ok (hl : Okl l) {c : Cs} (hc : Cov c (l.getD 0 (0, 0, 0))) : @FkOk (V l 0 B W) (Fi c) := by
  have hl2 := hl.2
  refine @FkOk.mk (V l 0 B W) (Fi c) (fun x hx => ?_) (fun x hx => by obtain rfl := List.mem_singleton.1 hx; exact row_ok (p := 0) hl (by omega) nzZ hc) (fun x hx => by cases hx)
  replace hx : x ∈ [Rl.mk kZ kO 1 300] := hx
  simp only [List.mem_cons, List.not_mem_nil, or_false] at hx
  rcases hx with rfl <;> simp only [RlOk, nzZ, nzO, nzA, nzB, nzW] <;> omega
theorem ft_ok (hl : Okl l) (hp : p < l.length) {c : Cs} (hc : Cov c (l.getD p (0, 0, 0))) : @FkOk (V l p B W) (Ft c) := by
  have hl2 := hl.2
  refine @FkOk.mk (V l p B W) (Ft c) (fun x hx => ?_) (fun x hx => by obtain rfl := List.mem_singleton.1 hx; exact row_ok hl hp nzA hc) (fun x hx => by cases hx)
  replace hx : x ∈ [Rl.mk kA kO 1 300, .mk kZ kO 1 300, .mk kZ kA 0 300] := hx
  simp only [List.mem_cons, List.not_mem_nil, or_false] at hx
  rcases hx with rfl | rfl | rfl <;> simp only [RlOk, nzZ, nzO, nzA, nzB, nzW] <;> omega
theorem fx_ok (hl : Okl l) (hp : p = l.length) : @FkOk (V l p B W) Fx := by
  have hl2 := hl.2
  refine @FkOk.mk (V l p B W) Fx (fun x hx => ?_) (fun x hx => by cases hx) (fun x hx => by cases hx)
  replace hx : x ∈ [Rl.mk kA kO 0 0, .mk kZ kO 1 300, .mk kZ kA 0 300] := hx
  simp only [List.mem_cons, List.not_mem_nil, or_false] at hx
  rcases hx with rfl | rfl | rfl <;> simp only [RlOk, nzZ, nzO, nzA, nzB, nzW] <;> omega
theorem ft2_ok (hl : Okl l) (hp : p < l.length) {c : Cs} (hc : Cov c (l.getD p (0, 0, 0))) (h1 : 3 ≤ B.length) (h2 : B.length ≤ 900) : @FkOk (V l p B W) (Ft2 c) := by
  have hl2 := hl.2
  refine @FkOk.mk (V l p B W) (Ft2 c) (fun x hx => ?_) (fun x hx => by obtain rfl := List.mem_singleton.1 hx; exact row_ok hl hp nzA hc) (fun x hx => by cases hx)
  replace hx : x ∈ [Rl.mk kA kO 1 300, .mk kZ kO 1 300, .mk kZ kA 0 300, .mk kZ kB 3 900] := hx
  simp only [List.mem_cons, List.not_mem_nil, or_false] at hx
  rcases hx with rfl | rfl | rfl | rfl <;> simp only [RlOk, nzZ, nzO, nzA, nzB, nzW] <;> omega
theorem fx2_ok (hl : Okl l) (hp : p = l.length) (h1 : 3 ≤ B.length) (h2 : B.length ≤ 900) : @FkOk (V l p B W) Fx2 := by
  have hl2 := hl.2
  refine @FkOk.mk (V l p B W) Fx2 (fun x hx => ?_) (fun x hx => by cases hx) (fun x hx => by cases hx)
  replace hx : x ∈ [Rl.mk kA kO 0 0, .mk kZ kO 1 300, .mk kZ kA 0 300, .mk kZ kB 3 900] := hx
  simp only [List.mem_cons, List.not_mem_nil, or_false] at hx
  rcases hx with rfl | rfl | rfl | rfl <;> simp only [RlOk, nzZ, nzO, nzA, nzB, nzW] <;> omega
theorem fi3_ok (hl : Okl l) {c : Cs} (hc : Cov c (l.getD 0 (0, 0, 0))) (h1 : 3 ≤ B.length) (h2 : B.length ≤ 900) : @FkOk (V l 0 B W) (Fi3 c) := by
  have hl2 := hl.2
  refine @FkOk.mk (V l 0 B W) (Fi3 c) (fun x hx => ?_) (fun x hx => by obtain rfl := List.mem_singleton.1 hx; exact row_ok (p := 0) hl (by omega) nzZ hc) (fun x hx => by cases hx)
  replace hx : x ∈ [Rl.mk kZ kO 1 300, .mk kZ kB 3 900] := hx
  simp only [List.mem_cons, List.not_mem_nil, or_false] at hx
  rcases hx with rfl | rfl <;> simp only [RlOk, nzZ, nzO, nzA, nzB, nzW] <;> omega
theorem ft3_ok (hl : Okl l) (hp : p < l.length) {c : Cs} (hc : Cov c (l.getD p (0, 0, 0))) (h1 : 3 ≤ B.length) (h2 : B.length ≤ 900) (h3 : 3 ≤ W.length) (h4 : W.length ≤ 900) : @FkOk (V l p B W) (Ft3 c) := by
  have hl2 := hl.2
  refine @FkOk.mk (V l p B W) (Ft3 c) (fun x hx => ?_) (fun x hx => by obtain rfl := List.mem_singleton.1 hx; exact row_ok hl hp nzA hc) (fun x hx => by cases hx)
  replace hx : x ∈ [Rl.mk kA kO 1 300, .mk kZ kO 1 300, .mk kZ kA 0 300, .mk kZ kB 3 900, .mk kZ kW 3 900] := hx
  simp only [List.mem_cons, List.not_mem_nil, or_false] at hx
  rcases hx with rfl | rfl | rfl | rfl | rfl <;> simp only [RlOk, nzZ, nzO, nzA, nzB, nzW] <;> omega
theorem ft3e_ok (hl : Okl l) (hp : p < l.length) {c : Cs} (hc : Cov c (l.getD p (0, 0, 0))) (h3 : 3 ≤ W.length) (h4 : W.length ≤ 900) : @FkOk (V l p B W) (Ft3e c) := by
  have hl2 := hl.2
  refine @FkOk.mk (V l p B W) (Ft3e c) (fun x hx => ?_) (fun x hx => by obtain rfl := List.mem_singleton.1 hx; exact row_ok hl hp nzA hc) (fun x hx => by cases hx)
  replace hx : x ∈ [Rl.mk kA kO 1 300, .mk kZ kO 1 300, .mk kZ kA 0 300, .mk kZ kW 3 900] := hx
  simp only [List.mem_cons, List.not_mem_nil, or_false] at hx
  rcases hx with rfl | rfl | rfl | rfl <;> simp only [RlOk, nzZ, nzO, nzA, nzB, nzW] <;> omega
theorem u_ok (h : ∀ b ∈ B, 0 ≤ b ∧ b ≤ 255) : ∀ x ∈ [kB], @UOk (V l p B W) x := by
  intro x hx
  obtain rfl := List.mem_singleton.1 hx
  intro row hrow
  obtain ⟨b, hb', rfl⟩ := List.mem_map.1 hrow
  have := h b hb'
  exact ⟨b.toNat, by simp only [brow, List.cons.injEq, Value.int.injEq, and_true, true_and]; omega, by omega⟩
theorem fx3_ok (hl : Okl l) (hp : p = l.length) (h1 : 3 ≤ B.length) (h2 : B.length ≤ 900) (hb : ∀ b ∈ B, 0 ≤ b ∧ b ≤ 255) : @FkOk (V l p B W) Fx3 := by
  have hl2 := hl.2
  refine @FkOk.mk (V l p B W) Fx3 (fun x hx => ?_) (fun x hx => by cases hx) (u_ok hb)
  replace hx : x ∈ [Rl.mk kA kO 0 0, .mk kZ kO 1 300, .mk kZ kA 0 300, .mk kZ kB 3 900] := hx
  simp only [List.mem_cons, List.not_mem_nil, or_false] at hx
  rcases hx with rfl | rfl | rfl | rfl <;> simp only [RlOk, nzZ, nzO, nzA, nzB, nzW] <;> omega
/-! how names turn -/
def bz : List (Key × Int × Int) := [(kO, 1, 300), (kN, mn, mx), (kX, mn, mx), (kK, mn, mx)]
theorem bz_ok (hl : Okl l) : ∀ x ∈ bz, x.2.1 ≤ @nz (V l p B W) x.1 ∧ @nz (V l p B W) x.1 ≤ x.2.2 := by
  intro x hx
  obtain ⟨i1, i2, i3⟩ := in_at (p := p) hl
  have h3 := hl.2
  simp only [bz, List.mem_cons, List.not_mem_nil, or_false] at hx
  rcases hx with rfl | rfl | rfl | rfl
  · simp only [nzO]; omega
  · simp only [nzN]; exact i2
  · simp only [nzX]; exact i3
  · simp only [nzK]; exact i1
def sg0 : Sg := .mk [.mk kA kZ 0 0 300, .mk kO kO 0 1 300] [(kO, kO)] [] bz
theorem sg0_ok (hl : Okl l)  : SgOk (V l 0 B W) (V l 0 B W) (sg0) := by
  have h9 := hl.2
  refine ⟨fun x hx => ?_, fun x hx => ?_, rfl, bz_ok hl⟩
  · simp only [sg0, Sg.ns, List.mem_cons, List.not_mem_nil, or_false] at hx
    rcases hx with rfl | rfl <;> simp only [NnOk, nzA, nzO, nzB, nzW, nzZ, List.length_append, List.length_cons, List.length_nil, bytesO] <;> omega
  · simp only [sg0, Sg.ls, List.mem_cons, List.not_mem_nil, or_false] at hx
    rcases hx with rfl <;> rfl
def sgT1 : Sg := .mk [.mk kA kA 1 0 300, .mk kO kO 0 1 300] [(kO, kO)] [] bz
theorem sgT1_ok (hl : Okl l) (hp : p < l.length) : SgOk (V l p B W) (V l (p + 1) B W) (sgT1) := by
  have h9 := hl.2
  refine ⟨fun x hx => ?_, fun x hx => ?_, rfl, bz_ok hl⟩
  · simp only [sgT1, Sg.ns, List.mem_cons, List.not_mem_nil, or_false] at hx
    rcases hx with rfl | rfl <;> simp only [NnOk, nzA, nzO, nzB, nzW, nzZ, List.length_append, List.length_cons, List.length_nil, bytesO] <;> omega
  · simp only [sgT1, Sg.ls, List.mem_cons, List.not_mem_nil, or_false] at hx
    rcases hx with rfl <;> rfl
def sgX : Sg := .mk [.mk kO kO 0 1 300] [(kO, kO)] [] bz
theorem sgX_ok (hl : Okl l)  : SgOk (V l p B W) (V l 0 [] []) (sgX) := by
  have h9 := hl.2
  refine ⟨fun x hx => ?_, fun x hx => ?_, rfl, bz_ok hl⟩
  · simp only [sgX, Sg.ns, List.mem_cons, List.not_mem_nil, or_false] at hx
    rcases hx with rfl <;> simp only [NnOk, nzA, nzO, nzB, nzW, nzZ, List.length_append, List.length_cons, List.length_nil, bytesO] <;> omega
  · simp only [sgX, Sg.ls, List.mem_cons, List.not_mem_nil, or_false] at hx
    rcases hx with rfl <;> rfl
def sgF2 (f : Key) : Sg := .mk [.mk kA kZ 1 0 300, .mk kB kZ 3 3 900, .mk kO kO 0 1 300] [(kO, kO)] [(f, 0, 1)] bz
theorem sgF2_ok (hl : Okl l) (f : Key) (o : Od) : SgOk (V l 0 [] []) (V l 1 (bytesO o) []) (sgF2 f) := by
  have h9 := hl.2
  refine ⟨fun x hx => ?_, fun x hx => ?_, rfl, bz_ok hl⟩
  · simp only [sgF2, Sg.ns, List.mem_cons, List.not_mem_nil, or_false] at hx
    rcases hx with rfl | rfl | rfl <;> simp only [NnOk, nzA, nzO, nzB, nzW, nzZ, List.length_append, List.length_cons, List.length_nil, bytesO] <;> omega
  · simp only [sgF2, Sg.ls, List.mem_cons, List.not_mem_nil, or_false] at hx
    rcases hx with rfl <;> rfl
def sgT2 (f : Key) : Sg := .mk [.mk kA kA 1 0 300, .mk kB kB 3 3 900, .mk kO kO 0 1 300] [(kO, kO)] [(f, 2, 1)] bz
theorem sgT2_ok (hl : Okl l) (f : Key) (o : Od) (hp : p < l.length) (h2 : B.length + 3 ≤ 900) : SgOk (V l p B []) (V l (p + 1) (B ++ bytesO o) []) (sgT2 f) := by
  have h9 := hl.2
  refine ⟨fun x hx => ?_, fun x hx => ?_, rfl, bz_ok hl⟩
  · simp only [sgT2, Sg.ns, List.mem_cons, List.not_mem_nil, or_false] at hx
    rcases hx with rfl | rfl | rfl <;> simp only [NnOk, nzA, nzO, nzB, nzW, nzZ, List.length_append, List.length_cons, List.length_nil, bytesO] <;> omega
  · simp only [sgT2, Sg.ls, List.mem_cons, List.not_mem_nil, or_false] at hx
    rcases hx with rfl <;> rfl
def sgX2 : Sg := .mk [.mk kO kO 0 1 300, .mk kB kB 0 3 900] [(kO, kO), (kB, kB)] [] bz
theorem sgX2_ok (hl : Okl l) (h1 : 3 ≤ B.length) (h2 : B.length ≤ 900) : SgOk (V l p B W) (V l 0 B []) (sgX2) := by
  have h9 := hl.2
  refine ⟨fun x hx => ?_, fun x hx => ?_, rfl, bz_ok hl⟩
  · simp only [sgX2, Sg.ns, List.mem_cons, List.not_mem_nil, or_false] at hx
    rcases hx with rfl | rfl <;> simp only [NnOk, nzA, nzO, nzB, nzW, nzZ, List.length_append, List.length_cons, List.length_nil, bytesO] <;> omega
  · simp only [sgX2, Sg.ls, List.mem_cons, List.not_mem_nil, or_false] at hx
    rcases hx with rfl | rfl <;> rfl
def sgF3 (f : Key) : Sg := .mk [.mk kA kZ 1 0 300, .mk kW kZ 3 3 900, .mk kO kO 0 1 300, .mk kB kB 0 3 900] [(kO, kO), (kB, kB)] [(f, 0, 1)] bz
theorem sgF3_ok (hl : Okl l) (f : Key) (o : Od) (h1 : 3 ≤ B.length) (h2 : B.length ≤ 900) : SgOk (V l 0 B []) (V l 1 B (bytesO o)) (sgF3 f) := by
  have h9 := hl.2
  refine ⟨fun x hx => ?_, fun x hx => ?_, rfl, bz_ok hl⟩
  · simp only [sgF3, Sg.ns, List.mem_cons, List.not_mem_nil, or_false] at hx
    rcases hx with rfl | rfl | rfl | rfl <;> simp only [NnOk, nzA, nzO, nzB, nzW, nzZ, List.length_append, List.length_cons, List.length_nil, bytesO] <;> omega
  · simp only [sgF3, Sg.ls, List.mem_cons, List.not_mem_nil, or_false] at hx
    rcases hx with rfl | rfl <;> rfl
def sgT3 (f : Key) : Sg := .mk [.mk kA kA 1 0 300, .mk kW kW 3 3 900, .mk kO kO 0 1 300, .mk kB kB 0 3 900] [(kO, kO), (kB, kB)] [(f, 2, 1)] bz
theorem sgT3_ok (hl : Okl l) (f : Key) (o : Od) (hp : p < l.length) (h1 : 3 ≤ B.length) (h2 : B.length ≤ 900) (h4 : W.length + 3 ≤ 900) : SgOk (V l p B W) (V l (p + 1) B (W ++ bytesO o)) (sgT3 f) := by
  have h9 := hl.2
  refine ⟨fun x hx => ?_, fun x hx => ?_, rfl, bz_ok hl⟩
  · simp only [sgT3, Sg.ns, List.mem_cons, List.not_mem_nil, or_false] at hx
    rcases hx with rfl | rfl | rfl | rfl <;> simp only [NnOk, nzA, nzO, nzB, nzW, nzZ, List.length_append, List.length_cons, List.length_nil, bytesO] <;> omega
  · simp only [sgT3, Sg.ls, List.mem_cons, List.not_mem_nil, or_false] at hx
    rcases hx with rfl | rfl <;> rfl
def sgF3e (f : Key) : Sg := .mk [.mk kA kZ 1 0 300, .mk kW kZ 3 3 900, .mk kO kO 0 1 300] [(kO, kO)] [(f, 0, 1)] bz
theorem sgF3e_ok (hl : Okl l) (f : Key) (o : Od) : SgOk (V l 0 [] []) (V l 1 [] (bytesO o)) (sgF3e f) := by
  have h9 := hl.2
  refine ⟨fun x hx => ?_, fun x hx => ?_, rfl, bz_ok hl⟩
  · simp only [sgF3e, Sg.ns, List.mem_cons, List.not_mem_nil, or_false] at hx
    rcases hx with rfl | rfl | rfl <;> simp only [NnOk, nzA, nzO, nzB, nzW, nzZ, List.length_append, List.length_cons, List.length_nil, bytesO] <;> omega
  · simp only [sgF3e, Sg.ls, List.mem_cons, List.not_mem_nil, or_false] at hx
    rcases hx with rfl <;> rfl
def sgT3e (f : Key) : Sg := .mk [.mk kA kA 1 0 300, .mk kW kW 3 3 900, .mk kO kO 0 1 300] [(kO, kO)] [(f, 2, 1)] bz
theorem sgT3e_ok (hl : Okl l) (f : Key) (o : Od) (hp : p < l.length) (h4 : W.length + 3 ≤ 900) : SgOk (V l p B W) (V l (p + 1) B (W ++ bytesO o)) (sgT3e f) := by
  have h9 := hl.2
  refine ⟨fun x hx => ?_, fun x hx => ?_, rfl, bz_ok hl⟩
  · simp only [sgT3e, Sg.ns, List.mem_cons, List.not_mem_nil, or_false] at hx
    rcases hx with rfl | rfl | rfl <;> simp only [NnOk, nzA, nzO, nzB, nzW, nzZ, List.length_append, List.length_cons, List.length_nil, bytesO] <;> omega
  · simp only [sgT3e, Sg.ls, List.mem_cons, List.not_mem_nil, or_false] at hx
    rcases hx with rfl <;> rfl
def sgY : Sg := .mk [.mk kA kZ 0 0 300, .mk kO kO 0 1 300] [(kO, kO)] [] bz
theorem sgY_ok (hl : Okl l)  : SgOk (V l p B W) (V l 0 B W) (sgY) := by
  have h9 := hl.2
  refine ⟨fun x hx => ?_, fun x hx => ?_, rfl, bz_ok hl⟩
  · simp only [sgY, Sg.ns, List.mem_cons, List.not_mem_nil, or_false] at hx
    rcases hx with rfl | rfl <;> simp only [NnOk, nzA, nzO, nzB, nzW, nzZ, List.length_append, List.length_cons, List.length_nil, bytesO] <;> omega
  · simp only [sgY, Sg.ls, List.mem_cons, List.not_mem_nil, or_false] at hx
    rcases hx with rfl <;> rfl
def sgR : Sg := .mk [.mk kA kA 0 0 300, .mk kO kO 0 1 300, .mk kB kB 0 3 900, .mk kB kW 0 3 900] [(kO, kO), (kB, kB), (kB, kW)] [] bz
theorem sgR_ok (hl : Okl l) (hp : p ≤ l.length) (h1 : 3 ≤ B.length) (h2 : B.length ≤ 900) : SgOk (V l p B B) (V l p B []) (sgR) := by
  have h9 := hl.2
  refine ⟨fun x hx => ?_, fun x hx => ?_, rfl, bz_ok hl⟩
  · simp only [sgR, Sg.ns, List.mem_cons, List.not_mem_nil, or_false] at hx
    rcases hx with rfl | rfl | rfl | rfl <;> simp only [NnOk, nzA, nzO, nzB, nzW, nzZ, List.length_append, List.length_cons, List.length_nil, bytesO] <;> omega
  · simp only [sgR, Sg.ls, List.mem_cons, List.not_mem_nil, or_false] at hx
    rcases hx with rfl | rfl | rfl <;> rfl
def sgY4 : Sg := .mk [.mk kA kZ 0 0 300, .mk kO kO 0 1 300, .mk kB kB 0 3 900] [(kO, kO), (kB, kB)] [] bz
theorem sgY4_ok (hl : Okl l) (h1 : 3 ≤ B.length) (h2 : B.length ≤ 900) : SgOk (V l p B W) (V l 0 B W) (sgY4) := by
  have h9 := hl.2
  refine ⟨fun x hx => ?_, fun x hx => ?_, rfl, bz_ok hl⟩
  · simp only [sgY4, Sg.ns, List.mem_cons, List.not_mem_nil, or_false] at hx
    rcases hx with rfl | rfl | rfl <;> simp only [NnOk, nzA, nzO, nzB, nzW, nzZ, List.length_append, List.length_cons, List.length_nil, bytesO] <;> omega
  · simp only [sgY4, Sg.ls, List.mem_cons, List.not_mem_nil, or_false] at hx
    rcases hx with rfl | rfl <;> rfl
def sgT4 : Sg := .mk [.mk kA kA 1 0 300, .mk kO kO 0 1 300, .mk kB kB 0 3 900] [(kO, kO), (kB, kB)] [] bz
theorem sgT4_ok (hl : Okl l) (hp : p < l.length) (h1 : 3 ≤ B.length) (h2 : B.length ≤ 900) : SgOk (V l p B W) (V l (p + 1) B W) (sgT4) := by
  have h9 := hl.2
  refine ⟨fun x hx => ?_, fun x hx => ?_, rfl, bz_ok hl⟩
  · simp only [sgT4, Sg.ns, List.mem_cons, List.not_mem_nil, or_false] at hx
    rcases hx with rfl | rfl | rfl <;> simp only [NnOk, nzA, nzO, nzB, nzW, nzZ, List.length_append, List.length_cons, List.length_nil, bytesO] <;> omega
  · simp only [sgT4, Sg.ls, List.mem_cons, List.not_mem_nil, or_false] at hx
    rcases hx with rfl | rfl <;> rfl
/-! the bytes of an order, as rows -/
def exp (c : Cs) : List (List AV) := c.bs.map fun a => [a]
theorem u8_inv {V : Val} {μ : Mu} {f : Key} {c lo hi n b : Int} {v : Value} (k : @VR V μ (.sx .u8 f c lo hi) v) (hn : V.n f = n) (hb : n + c = b) (h : 0 ≤ b ∧ b ≤ 255) : v = .int .u8 b := by
  simp only [VR] at k
  rw [k.1, hn, hb, fitW (k := .u8) (lo := 0) (hi := 255) rfl h.1 h.2]
theorem U_inv {V : Val} {μ : Mu} {n : Nat} {b : Int} {v : Value} (k : @VR V μ (U n) v) (hb : (n : Int) = b) : v = .int .u8 b := by
  unfold U at k
  simp only [VR] at k
  rw [k, ← hb]; rfl
theorem three {v : Val} {μ : Mu} {a b c : AV} {rows : List (List Value)} (h : VRR v μ [[a], [b], [c]] rows) : ∃ x y z, rows = [[x], [y], [z]] ∧ @VR v μ a x ∧ @VR v μ b y ∧ @VR v μ c z := by
  cases h with
  | cons h1 h2 =>
    cases h2 with
    | cons h3 h4 =>
      cases h4 with
      | cons h5 h6 =>
        cases h6
        simp only [VRs] at h1 h3 h5
        obtain ⟨x, _, rfl, a1, rfl⟩ := h1
        obtain ⟨y, _, rfl, a2, rfl⟩ := h3
        obtain ⟨z, _, rfl, a3, rfl⟩ := h5
        exact ⟨x, y, z, rfl, a1, a2, a3⟩
theorem rows_of {o : Od} {x y z : Value} (e1 : x = .int .u8 (o.1 - 1)) (e2 : y = .int .u8 (o.2.1 - (if o.1 = 2 then 1 else 0))) (e3 : z = .int .u8 (o.2.2 + (if o.1 = 3 ∨ o.1 = 4 then 1 else 0))) : [[x], [y], [z]] = (bytesO o).map brow := by
  subst e1 e2 e3; rfl
theorem cV_inv {k a b c d : Int} {bs : List AV} {o : Od} (h : Cov (cV k a b c d bs) o) : o.1 = k ∧ (a ≤ o.2.1 ∧ o.2.1 ≤ b) ∧ (c ≤ o.2.2 ∧ o.2.2 ≤ d) := by
  obtain ⟨_, h2, h3, h4⟩ := h
  refine ⟨?_, h2, h3⟩
  rcases h4 with h4 | h4
  · simp only [cV, AV.int.injEq, true_and] at h4; exact h4.symm
  · simp only [cV] at h4; cases h4
theorem good_rows {c : Cs} (hc : c ∈ goods) (hv : Cov c (l.getD p (0, 0, 0))) {μ : Mu} {rows : List (List Value)} (h : VRR (V l p B W) μ (exp c) rows) : rows = (bytesO (l.getD p (0, 0, 0))).map brow := by
  simp only [goods, List.mem_cons, List.not_mem_nil, or_false] at hc
  have hN : (V l p B W).n kN = (l.getD p (0, 0, 0)).2.1 := rfl
  have hX : (V l p B W).n kX = (l.getD p (0, 0, 0)).2.2 := rfl
  generalize l.getD p (0, 0, 0) = o at hv hN hX
  rcases hc with rfl | rfl | rfl | rfl | rfl | rfl | rfl | rfl
  all_goals
    obtain ⟨e, ⟨i1, i2⟩, ⟨i3, i4⟩⟩ := cV_inv hv
    obtain ⟨x, y, z, rfl, h1, h2, h3⟩ := three h
    have f1 : ¬ (o.1 = 2) ∨ o.1 = 2 := by omega
    refine rows_of (U_inv h1 (by omega)) ?_ ?_
    · first
        | exact u8_inv h2 hN (by split <;> omega) (by split <;> omega)
        | exact U_inv h2 (by split <;> omega)
    · first
        | exact u8_inv h3 hX (by split <;> omega) (by split <;> omega)
        | exact U_inv h3 (by split <;> omega)
theorem brow_len (B : List Int) : ∀ row ∈ B.map brow, row.length = 1 := by
  intro row h
  obtain ⟨o, _, rfl⟩ := List.mem_map.1 h
  rfl
theorem newB (f : Key) {c : Cs} (hc : c ∈ goods) (hv : Cov c (l.getD 0 (0, 0, 0))) : GrOk (V l 0 [] []) (V l 1 (bytesO (l.getD 0 (0, 0, 0))) []) (.new f kB 1 (exp c)) :=
  ⟨(by rw [nzB, lB, List.length_map]), brow_len _, fun μ rows h => by rw [good_rows hc hv h]; rfl⟩
theorem growB (f : Key) {c : Cs} (hc : c ∈ goods) (hv : Cov c (l.getD p (0, 0, 0))) : GrOk (V l p B []) (V l (p + 1) (B ++ bytesO (l.getD p (0, 0, 0))) []) (.grow f kB kB 1 (exp c)) :=
  ⟨(by rw [nzB, lB, List.length_map]), brow_len _, fun μ rows h => by rw [good_rows hc hv h, lB, lB, List.map_append]⟩
theorem newW (f : Key) {c : Cs} (hc : c ∈ goods) (hv : Cov c (l.getD 0 (0, 0, 0))) : GrOk (V l 0 B []) (V l 1 B (bytesO (l.getD 0 (0, 0, 0)))) (.new f kW 1 (exp c)) :=
  ⟨(by rw [nzW, lW, List.length_map]), brow_len _, fun μ rows h => by rw [good_rows hc hv h]; rfl⟩
theorem growW (f : Key) {c : Cs} (hc : c ∈ goods) (hv : Cov c (l.getD p (0, 0, 0))) : GrOk (V l p B W) (V l (p + 1) B (W ++ bytesO (l.getD p (0, 0, 0)))) (.grow f kW kW 1 (exp c)) :=
  ⟨(by rw [nzW, lW, List.length_map]), brow_len _, fun μ rows h => by rw [good_rows hc hv h, lW, lW, List.map_append]⟩
theorem bytesO_ok {o : Od} (h : okO o) : ∀ b ∈ bytesO o, 0 ≤ b ∧ b ≤ 255 := by
  intro b hb
  simp only [bytesO, List.mem_cons, List.not_mem_nil, or_false] at hb
  unfold okO at h
  rcases hb with rfl | rfl | rfl
  · omega
  · split <;> omega
  · split <;> omega
end
end
end Checks
end Go.Proofs.YtlhkmfgoebgljaaGreatDoor
