/- ScriptBack: what orders bytes are; the names of a run that reads bytes. -/
import Derived.Test.YtadnhmpkfelofaaGreatDoorEv13
import Derived.KernelRfl
set_option warn.classDefReducibility false
set_option linter.unusedVariables false
set_option linter.unusedSectionVars false
set_option linter.unusedSimpArgs false
open Go Go.Ev
namespace Go.Proofs.YtadnhmpkfelofaaGreatDoor
namespace Back
namespace Rd
noncomputable section
/-! names -/
def kQ : Key := .mk .d0 .d0 .d0 .d2 .d4
def kA : Key := .mk .d0 .d0 .d0 .d2 .d5
def kB1 : Key := .mk .d0 .d0 .d0 .d2 .d6
def kB2 : Key := .mk .d0 .d0 .d0 .d2 .d7
def kL : Key := .mk .d0 .d0 .d0 .d3 .d0
def kR : Key := .mk .d0 .d0 .d0 .d3 .d1
def kE0 : Key := .mk .d0 .d0 .d0 .d1 .d6
def kE1 : Key := .mk .d0 .d0 .d0 .d1 .d7
def fkOf (rel : List Rl) (rows : List Rf) : Fk := ⟨rel, rows, [kQ]⟩
def rowsG (k : Key) : Nat → List AV → List Rf
  | _, [] => []
  | j, a :: l => .mk kQ k (.ofNat j) [a] :: rowsG k (j + 1) l
def b1 : AV := .sx .u8 kB1 0 0 255
def b2 : AV := .sx .u8 kB2 0 0 255
def e1 : AV := .sx .i64 kB1 0 0 255
def e2 : AV := .sx .i64 kB2 0 0 255
/-- what three bytes are, and the order that they are -/
def c3 (r s t : Nat) : List AV × List AV :=
  match r with
  | 0 => ([.md .u8 5 0, b1, b2], [I 1, e1, I 0])
  | 1 => ([.md .u8 5 1, .md .u8 6 s, b2], [I 2, I (s + 1), if s = 2 then e2 else if s = 5 then e2 else I 0])
  | 2 => ([.md .u8 5 2, b1, .md .u8 9 t], [I 3, e1, .int .i64 ((t : Int) - 1)])
  | 3 => ([.md .u8 5 3, b1, .md .u8 9 t], [I 4, e1, .int .i64 ((t : Int) - 1)])
  | _ => ([.md .u8 5 4, b1, b2], [I 5, I 0, I 0])
def c2 (r s : Nat) : List AV × List AV :=
  match r with
  | 0 => ([.md .u8 5 0, b1], [I 1, e1, I 0])
  | 1 => ([.md .u8 5 1, .md .u8 6 s], [I 2, I (s + 1), I 0])
  | 2 => ([.md .u8 5 2, b1], [I 3, e1, .int .i64 (-1)])
  | 3 => ([.md .u8 5 3, b1], [I 4, e1, .int .i64 (-1)])
  | _ => ([.md .u8 5 4, b1], [I 5, I 0, I 0])
def c1 (r : Nat) : List AV × List AV :=
  match r with
  | 0 => ([.md .u8 5 0], [I 1, I 0, I 0])
  | 1 => ([.md .u8 5 1], [I 2, I 1, I 0])
  | 2 => ([.md .u8 5 2], [I 3, I 0, .int .i64 (-1)])
  | 3 => ([.md .u8 5 3], [I 4, I 0, .int .i64 (-1)])
  | _ => ([.md .u8 5 4], [I 5, I 0, I 0])
/-- a class: how many bytes are left, what they are, the order -/
structure Cs where
  lo : Int
  hi : Int
  r : List AV
  o : List AV
def cs3 (r s t : Nat) : Cs := ⟨3, 1000, (c3 r s t).1, (c3 r s t).2⟩
def cs2 (r s : Nat) : Cs := ⟨2, 2, (c2 r s).1, (c2 r s).2⟩
def cs1 (r : Nat) : Cs := ⟨1, 1, (c1 r).1, (c1 r).2⟩
def canon (r s t : Nat) : Cs :=
  match r with
  | 1 => cs3 1 s 0
  | 2 => cs3 2 0 t
  | 3 => cs3 3 0 t
  | r => cs3 r 0 0
def canon2 (r s : Nat) : Cs :=
  match r with
  | 1 => cs2 1 s
  | r => cs2 r 0
def classes : List Cs := [cs3 0 0 0] ++ (List.range 6).map (fun s => cs3 1 s 0) ++ (List.range 9).map (fun t => cs3 2 0 t) ++ (List.range 9).map (fun t => cs3 3 0 t) ++ [cs3 4 0 0] ++
  [cs2 0 0] ++ (List.range 6).map (fun s => cs2 1 s) ++ [cs2 2 0, cs2 3 0, cs2 4 0] ++ [cs1 0, cs1 1, cs1 2, cs1 3, cs1 4]
theorem r5 {r : Nat} (h : r < 5) : r = 0 ∨ r = 1 ∨ r = 2 ∨ r = 3 ∨ r = 4 := by omega
theorem in3 {r s t : Nat} (hr : r < 5) (hs : s < 6) (ht : t < 9) : canon r s t ∈ classes := by
  unfold classes
  simp only [List.mem_append, List.mem_map, List.mem_range, List.mem_cons, List.not_mem_nil, or_false]
  rcases r5 hr with rfl | rfl | rfl | rfl | rfl
  · exact .inl (.inl (.inl (.inl (.inl (.inl (.inl (.inl (rfl))))))))
  · exact .inl (.inl (.inl (.inl (.inl (.inl (.inl (.inr ⟨s, hs, rfl⟩)))))))
  · exact .inl (.inl (.inl (.inl (.inl (.inl (.inr ⟨t, ht, rfl⟩))))))
  · exact .inl (.inl (.inl (.inl (.inl (.inr ⟨t, ht, rfl⟩)))))
  · exact .inl (.inl (.inl (.inl (.inr rfl))))
theorem in2 {r s : Nat} (hr : r < 5) (hs : s < 6) : canon2 r s ∈ classes := by
  unfold classes
  simp only [List.mem_append, List.mem_map, List.mem_range, List.mem_cons, List.not_mem_nil, or_false]
  rcases r5 hr with rfl | rfl | rfl | rfl | rfl
  · exact .inl (.inl (.inl (.inr rfl)))
  · exact .inl (.inl (.inr ⟨s, hs, rfl⟩))
  · exact .inl (.inr (.inl rfl))
  · exact .inl (.inr (.inr (.inl rfl)))
  · exact .inl (.inr (.inr (.inr rfl)))
theorem in1 {r : Nat} (hr : r < 5) : cs1 r ∈ classes := by
  unfold classes
  simp only [List.mem_append, List.mem_map, List.mem_range, List.mem_cons, List.not_mem_nil, or_false]
  rcases r5 hr with rfl | rfl | rfl | rfl | rfl
  · exact .inr (.inl rfl)
  · exact .inr (.inr (.inl rfl))
  · exact .inr (.inr (.inr (.inl rfl)))
  · exact .inr (.inr (.inr (.inr (.inl rfl))))
  · exact .inr (.inr (.inr (.inr (.inr rfl))))

/-! what orders bytes are -/
abbrev Od := Int × Int × Int
def orow (o : Od) : List Value := [.int .i64 o.1, .int .i64 o.2.1, .int .i64 o.2.2]
def brow (b : Nat) : List Value := [.int .u8 (b : Int)]
def od (x y z : Nat) : Od :=
  match x % 5 with
  | 0 => (1, y, 0)
  | 1 => (2, (y % 6 + 1 : Nat), if y % 6 = 2 then z else if y % 6 = 5 then z else 0)
  | 2 => (3, y, ((z % 9 : Nat) : Int) - 1)
  | 3 => (4, y, ((z % 9 : Nat) : Int) - 1)
  | _ => (5, 0, 0)
def ords : List Nat → List Od
  | [] => []
  | [x] => [od x 0 0]
  | [x, y] => [od x y 0]
  | x :: y :: z :: l => od x y z :: ords l
theorem ords_length : ∀ l : List Nat, 3 * (ords l).length ≤ l.length + 2
  | [] => by simp [ords]
  | [x] => by simp [ords]
  | [x, y] => by simp [ords]
  | x :: y :: z :: l => by have := ords_length l; simp [ords]; omega
/-- what the names stand for: the bytes, a place, the orders so far -/
@[reducible] def V (bs : List Nat) (p : Nat) (L R : List Od) : Val :=
  ⟨fun k => bif Key.beq k kQ then bs.length else bif Key.beq k kA then p else bif Key.beq k kB1 then (bs.getD (p + 1) 0 : Nat) else bif Key.beq k kB2 then (bs.getD (p + 2) 0 : Nat)
    else bif Key.beq k kL then L.length else bif Key.beq k kR then R.length else bif Key.beq k kE0 then (L.getD p (0, 0, 0)).1 else bif Key.beq k kE1 then (L.getD p (0, 0, 0)).2.1 else (L.getD p (0, 0, 0)).2.2,
   fun k => bif Key.beq k kQ then bs.map brow else bif Key.beq k kL then L.map orow else bif Key.beq k kR then R.map orow else []⟩
section
variable {bs : List Nat} {p : Nat} {L R : List Od}
theorem nzZ : @nz (V bs p L R) kZ = 0 := @nz_kZ (V bs p L R)
theorem nzQ : @nz (V bs p L R) kQ = (bs.length : Int) := @nz_ne (V bs p L R) kQ rfl
theorem nzA : @nz (V bs p L R) kA = (p : Int) := @nz_ne (V bs p L R) kA rfl
theorem nzB1 : @nz (V bs p L R) kB1 = ((bs.getD (p + 1) 0 : Nat) : Int) := @nz_ne (V bs p L R) kB1 rfl
theorem nzB2 : @nz (V bs p L R) kB2 = ((bs.getD (p + 2) 0 : Nat) : Int) := @nz_ne (V bs p L R) kB2 rfl
theorem nzL : @nz (V bs p L R) kL = (L.length : Int) := @nz_ne (V bs p L R) kL rfl
theorem lQ : (V bs p L R).l kQ = bs.map brow := rfl
theorem lL : (V bs p L R).l kL = L.map orow := rfl
def Okb (bs : List Nat) : Prop := (∀ b ∈ bs, b < 256) ∧ 1 ≤ bs.length ∧ bs.length ≤ 1000
theorem getD_lt (h : Okb bs) (i : Nat) : bs.getD i 0 < 256 := by
  rw [List.getD_eq_getElem?_getD]
  cases hi : bs[i]? with
  | none => simp
  | some b => exact h.1 b (List.mem_of_getElem? hi)
theorem md_vr {V : Val} {m x : Nat} (hx : x < 256) (μ : Mu) : @VRs V μ [.md .u8 m (x % m)] (brow x) := by
  simp only [VRs, VR, brow]
  exact ⟨_, _, rfl, ⟨x, rfl, rfl, by simp only [kmax]; omega⟩, rfl⟩
theorem b1_vr {y : Nat} (h : bs.getD (p + 1) 0 = y) (hy : y < 256) (μ : Mu) : @VRs (V bs p L R) μ [b1] (brow y) := by
  simp only [VRs, VR, brow, b1]
  refine ⟨_, _, rfl, ⟨?_, ?_, ?_⟩, rfl⟩
  · show Value.int .u8 (y : Int) = .int .u8 (IntKind.wrap .u8 (((bs.getD (p + 1) 0 : Nat) : Int) + 0))
    rw [h, Int.add_zero]
    rw [fitW (k := .u8) (lo := 0) (hi := 255) rfl (by omega) (by omega)]
  · show (0 : Int) ≤ ((bs.getD (p + 1) 0 : Nat) : Int) + 0; omega
  · show ((bs.getD (p + 1) 0 : Nat) : Int) + 0 ≤ 255; omega
theorem b2_vr {y : Nat} (h : bs.getD (p + 2) 0 = y) (hy : y < 256) (μ : Mu) : @VRs (V bs p L R) μ [b2] (brow y) := by
  simp only [VRs, VR, brow, b2]
  refine ⟨_, _, rfl, ⟨?_, ?_, ?_⟩, rfl⟩
  · show Value.int .u8 (y : Int) = .int .u8 (IntKind.wrap .u8 (((bs.getD (p + 2) 0 : Nat) : Int) + 0))
    rw [h, Int.add_zero]
    rw [fitW (k := .u8) (lo := 0) (hi := 255) rfl (by omega) (by omega)]
  · show (0 : Int) ≤ ((bs.getD (p + 2) 0 : Nat) : Int) + 0; omega
  · show ((bs.getD (p + 2) 0 : Nat) : Int) + 0 ≤ 255; omega
theorem rows_ok {V : Val} {k : Key} {pos : Nat} (hk : @nz V k = (pos : Int)) : ∀ (r : List AV) (j : Nat), (∀ i a, r[i]? = some a → ∃ row, (V.l kQ)[pos + (j + i)]? = some row ∧ ∀ μ, @VRs V μ [a] row) → ∀ x ∈ rowsG k j r, @RfOk V x
  | [], _, _, x, hx => by cases hx
  | a :: r, j, h, x, hx => by
    rcases List.mem_cons.1 hx with rfl | hx
    · obtain ⟨row, h1, h2⟩ := h 0 a rfl
      exact ⟨pos + j, row, by rw [hk]; simp, by simpa using h1, h2⟩
    · exact rows_ok hk r (j + 1) (fun i a hi => by
        obtain ⟨row, h1, h2⟩ := h (i + 1) a (by simpa using hi)
        exact ⟨row, by rwa [show j + 1 + i = j + (i + 1) from by omega], h2⟩) x hx
/-- the class of what is left -/
def csOf : List Nat → Cs
  | [] => ⟨-2, 0, [], []⟩
  | [x] => cs1 (x % 5)
  | [x, y] => canon2 (x % 5) (y % 6)
  | x :: y :: z :: _ => canon (x % 5) (y % 6) (z % 9)
/-- the next order -/
def odOf : List Nat → Od
  | [] => (0, 0, 0)
  | [x] => od x 0 0
  | [x, y] => od x y 0
  | x :: y :: z :: _ => od x y z
theorem csOf_in : ∀ {l : List Nat}, l ≠ [] → csOf l ∈ classes
  | [], h => absurd rfl h
  | [x], _ => in1 (Nat.mod_lt _ (by decide))
  | [x, y], _ => in2 (Nat.mod_lt _ (by decide)) (Nat.mod_lt _ (by decide))
  | x :: y :: z :: _, _ => in3 (Nat.mod_lt _ (by decide)) (Nat.mod_lt _ (by decide)) (Nat.mod_lt _ (by decide))
theorem ords_step : ∀ {l : List Nat}, l ≠ [] → ords l = odOf l :: ords (l.drop 3)
  | [], h => absurd rfl h
  | [x], _ => rfl
  | [x, y], _ => rfl
  | x :: y :: z :: _, _ => rfl
theorem drop_get {l : List Nat} (hd : bs.drop p = l) (i : Nat) : l[i]? = bs[p + i]? := by rw [← hd, List.getElem?_drop]
theorem row_at {l : List Nat} (hd : bs.drop p = l) {i b : Nat} (h : l[i]? = some b) : ((V bs p L R).l kQ)[p + (0 + i)]? = some (brow b) := by
  rw [lQ, List.getElem?_map, Nat.zero_add, ← drop_get hd, h]; rfl
theorem getD_at {l : List Nat} (hd : bs.drop p = l) {i b : Nat} (h : l[i]? = some b) : bs.getD (p + i) 0 = b := by
  rw [List.getD_eq_getElem?_getD, ← drop_get hd, h]; rfl
theorem lt_at (hb : Okb bs) {l : List Nat} (hd : bs.drop p = l) {i b : Nat} (h : l[i]? = some b) : b < 256 := hb.1 b (List.mem_of_getElem? (by rw [drop_get hd] at h; exact h))
/-- the rows that a class tells are the bytes' -/
theorem cs_rows (hb : Okb bs) {l : List Nat} (hd : bs.drop p = l) (i : Nat) (a : AV) (ha : (csOf l).r[i]? = some a) : ∃ row, ((V bs p L R).l kQ)[p + (0 + i)]? = some row ∧ ∀ μ, @VRs (V bs p L R) μ [a] row := by
  match l, hd with
  | [], _ => simp [csOf] at ha
  | [x], hd =>
    have hx := lt_at hb hd (i := 0) rfl
    have h1 := row_at (L := L) (R := R) hd (i := 0) rfl
    have hm := @md_vr (V bs p L R) 5 x hx
    rcases r5 (Nat.mod_lt x (show 0 < 5 by decide)) with h | h | h | h | h <;> rw [h] at hm <;> simp only [csOf, h, cs1, c1] at ha <;>
      (match i, ha with
       | 0, ha => simp at ha; subst ha; exact ⟨_, h1, hm⟩
       | n + 1, ha => simp at ha)
  | [x, y], hd =>
    have hx := lt_at hb hd (i := 0) rfl
    have hy := lt_at hb hd (i := 1) rfl
    have h1 := row_at (L := L) (R := R) hd (i := 0) rfl
    have h2 := row_at (L := L) (R := R) hd (i := 1) rfl
    have hm := @md_vr (V bs p L R) 5 x hx
    have hm2 := @md_vr (V bs p L R) 6 y hy
    have hs := b1_vr (L := L) (R := R) (getD_at hd (i := 1) rfl) hy
    rcases r5 (Nat.mod_lt x (show 0 < 5 by decide)) with h | h | h | h | h <;> rw [h] at hm <;> simp only [csOf, h, canon2, cs2, c2] at ha <;>
      (match i, ha with
       | 0, ha => simp at ha; subst ha; exact ⟨_, h1, hm⟩
       | 1, ha => simp at ha; subst ha; first | exact ⟨_, h2, hs⟩ | exact ⟨_, h2, hm2⟩
       | n + 2, ha => simp at ha)
  | x :: y :: z :: l', hd =>
    have hx := lt_at hb hd (i := 0) rfl
    have hy := lt_at hb hd (i := 1) rfl
    have hz := lt_at hb hd (i := 2) rfl
    have h1 := row_at (L := L) (R := R) hd (i := 0) rfl
    have h2 := row_at (L := L) (R := R) hd (i := 1) rfl
    have h3 := row_at (L := L) (R := R) hd (i := 2) rfl
    have hm := @md_vr (V bs p L R) 5 x hx
    have hm2 := @md_vr (V bs p L R) 6 y hy
    have hm3 := @md_vr (V bs p L R) 9 z hz
    have hs := b1_vr (L := L) (R := R) (getD_at hd (i := 1) rfl) hy
    have hs2 := b2_vr (L := L) (R := R) (getD_at hd (i := 2) rfl) hz
    rcases r5 (Nat.mod_lt x (show 0 < 5 by decide)) with h | h | h | h | h <;> rw [h] at hm <;> simp only [csOf, h, canon, cs3, c3] at ha <;>
      (match i, ha with
       | 0, ha => simp at ha; subst ha; exact ⟨_, h1, hm⟩
       | 1, ha => simp at ha; subst ha; first | exact ⟨_, h2, hs⟩ | exact ⟨_, h2, hm2⟩
       | 2, ha => simp at ha; subst ha; first | exact ⟨_, h3, hs2⟩ | exact ⟨_, h3, hm3⟩
       | n + 3, ha => simp at ha)
theorem I_inv {V : Val} {μ : Mu} {n : Nat} {v : Value} (h : @VR V μ (I n) v) : v = .int .i64 (n : Int) := by
  unfold I at h; simp only [VR] at h; exact h
theorem e1_inv {y : Nat} (h : bs.getD (p + 1) 0 = y) (hy : y < 256) {μ : Mu} {v : Value} (k : @VR (V bs p L R) μ e1 v) : v = .int .i64 (y : Int) := by
  simp only [VR, e1] at k
  obtain ⟨k, _⟩ := k
  rw [k]
  show Value.int .i64 (IntKind.wrap .i64 (((bs.getD (p + 1) 0 : Nat) : Int) + 0)) = _
  rw [h, Int.add_zero, fitW (k := .i64) (lo := 0) (hi := 255) rfl (by omega) (by omega)]
theorem e2_inv {y : Nat} (h : bs.getD (p + 2) 0 = y) (hy : y < 256) {μ : Mu} {v : Value} (k : @VR (V bs p L R) μ e2 v) : v = .int .i64 (y : Int) := by
  simp only [VR, e2] at k
  obtain ⟨k, _⟩ := k
  rw [k]
  show Value.int .i64 (IntKind.wrap .i64 (((bs.getD (p + 2) 0 : Nat) : Int) + 0)) = _
  rw [h, Int.add_zero, fitW (k := .i64) (lo := 0) (hi := 255) rfl (by omega) (by omega)]
theorem int_inv {V : Val} {μ : Mu} {n : Int} {v : Value} (h : @VR V μ (.int .i64 n) v) : v = .int .i64 n := by simpa only [VR] using h
theorem three_inv {V : Val} {μ : Mu} {a b c : AV} {row : List Value} (h : @VRs V μ [a, b, c] row) : ∃ x y z, row = [x, y, z] ∧ @VR V μ a x ∧ @VR V μ b y ∧ @VR V μ c z := by
  simp only [VRs] at h
  obtain ⟨x, _, rfl, h1, y, _, rfl, h2, z, _, rfl, h3, rfl⟩ := h
  exact ⟨x, y, z, rfl, h1, h2, h3⟩
theorem od_of {o : Od} {x y z : Value} {a b c : Int} (e : o = (a, b, c)) (hx : x = .int .i64 a) (hy : y = .int .i64 b) (hz : z = .int .i64 c) : [x, y, z] = orow o := by subst e hx hy hz; rfl
/-- the row that a class tells is the order -/
theorem cs_od (hb : Okb bs) {l : List Nat} (hd : bs.drop p = l) (hl : l ≠ []) {μ : Mu} {row : List Value} (h : @VRs (V bs p L R) μ (csOf l).o row) : row = orow (odOf l) := by
  match l, hd, hl with
  | [], _, hl => exact absurd rfl hl
  | [x], hd, _ =>
    rcases r5 (Nat.mod_lt x (show 0 < 5 by decide)) with e | e | e | e | e <;> simp only [csOf, e, cs1, c1] at h <;>
      (obtain ⟨u, v, w, rfl, h1, h2, h3⟩ := three_inv h
       refine od_of (by simp only [odOf, od, e]; rfl) (I_inv h1) (I_inv h2) (int_inv h3))
  | [x, y], hd, _ =>
    have hy := lt_at hb hd (i := 1) rfl
    have hs := fun v (k : @VR (V bs p L R) μ e1 v) => e1_inv (getD_at hd (i := 1) rfl) hy k
    rcases r5 (Nat.mod_lt x (show 0 < 5 by decide)) with e | e | e | e | e <;> simp only [csOf, e, canon2, cs2, c2] at h <;>
      (obtain ⟨u, v, w, rfl, h1, h2, h3⟩ := three_inv h
       refine od_of (by simp only [odOf, od, e]; first | rfl | ((repeat' split) <;> rfl)) (I_inv h1) (by first | exact hs _ h2 | exact I_inv h2) (int_inv h3))
  | x :: y :: z :: l', hd, _ =>
    have hy := lt_at hb hd (i := 1) rfl
    have hz := lt_at hb hd (i := 2) rfl
    have hs := fun v (k : @VR (V bs p L R) μ e1 v) => e1_inv (getD_at hd (i := 1) rfl) hy k
    have hs2 := fun v (k : @VR (V bs p L R) μ e2 v) => e2_inv (getD_at hd (i := 2) rfl) hz k
    rcases r5 (Nat.mod_lt x (show 0 < 5 by decide)) with e | e | e | e | e <;> simp only [csOf, e, canon, cs3, c3] at h <;>
      (obtain ⟨u, v, w, rfl, h1, h2, h3⟩ := three_inv h)
    · exact od_of (by simp only [odOf, od, e] <;> rfl) (I_inv h1) (hs _ h2) (I_inv h3)
    · refine od_of (by simp only [odOf, od, e] <;> rfl) (I_inv h1) (I_inv h2) ?_
      by_cases e2 : y % 6 = 2
      · rw [if_pos e2] at h3 ⊢; exact hs2 _ h3
      · by_cases e5 : y % 6 = 5
        · rw [if_neg e2, if_pos e5] at h3 ⊢; exact hs2 _ h3
        · rw [if_neg e2, if_neg e5] at h3 ⊢; exact I_inv h3
    · exact od_of (by simp only [odOf, od, e] <;> rfl) (I_inv h1) (hs _ h2) (int_inv h3)
    · exact od_of (by simp only [odOf, od, e] <;> rfl) (I_inv h1) (hs _ h2) (int_inv h3)
    · exact od_of (by simp only [odOf, od, e] <;> rfl) (I_inv h1) (I_inv h2) (I_inv h3)
theorem canon_len (r s t : Nat) : (canon r s t).lo = 3 ∧ (canon r s t).hi = 1000 := by
  unfold canon
  split <;> exact ⟨rfl, rfl⟩
theorem canon2_len (r s : Nat) : (canon2 r s).lo = 2 ∧ (canon2 r s).hi = 2 := by
  unfold canon2
  split <;> exact ⟨rfl, rfl⟩
theorem cs_len (hb : Okb bs) {l : List Nat} (hd : bs.drop p = l) (hp : p ≤ bs.length + 2) : (csOf l).lo ≤ (bs.length : Int) - p ∧ (bs.length : Int) - p ≤ (csOf l).hi := by
  have hlen : l.length = bs.length - p := by rw [← hd, List.length_drop]
  have h2 := hb.2.2
  match l, hd, hlen with
  | [], _, h => simp only [csOf, List.length_nil] at h ⊢; omega
  | [x], _, h => simp only [csOf, cs1, List.length_cons, List.length_nil] at h ⊢; omega
  | [x, y], _, h =>
    obtain ⟨e1, e2⟩ := canon2_len (x % 5) (y % 6)
    simp only [csOf, e1, e2, List.length_cons, List.length_nil] at h ⊢; omega
  | x :: y :: z :: _, _, h =>
    obtain ⟨e1, e2⟩ := canon_len (x % 5) (y % 6) (z % 9)
    simp only [csOf, e1, e2, List.length_cons] at h ⊢; omega
theorem u_ok (hb : Okb bs) : ∀ x ∈ [kQ], @UOk (V bs p L R) x := by
  intro x hx
  obtain rfl := List.mem_singleton.1 hx
  intro row hrow
  obtain ⟨b, hb', rfl⟩ := List.mem_map.1 hrow
  exact ⟨b, rfl, hb.1 b hb'⟩
/-- what is known of names in a run -/
def Fi (c : Cs) : Fk := fkOf [.mk kZ kQ c.lo c.hi] (rowsG kZ 0 c.r)
def Ft (c : Cs) : Fk := fkOf [.mk kA kQ c.lo c.hi, .mk kZ kQ 1 1000, .mk kZ kA 0 1002, .mk kZ kL 1 334] (rowsG kA 0 c.r)
theorem cs_rows0 (hb : Okb bs) : ∀ x ∈ rowsG kZ 0 (csOf bs).r, @RfOk (V bs 0 L R) x :=
  rows_ok (V := V bs 0 L R) (pos := 0) nzZ _ 0 (fun i a ha => cs_rows hb (p := 0) (by simp) i a ha)
theorem cs_rowsA (hb : Okb bs) : ∀ x ∈ rowsG kA 0 (csOf (bs.drop p)).r, @RfOk (V bs p L R) x :=
  rows_ok (V := V bs p L R) (pos := p) nzA _ 0 (fun i a ha => cs_rows hb rfl i a ha)
theorem fi_ok (hb : Okb bs) : @FkOk (V bs 0 L R) (Fi (csOf bs)) := by
  have h := cs_len (p := 0) hb (l := bs) (by simp) (by omega)
  refine @FkOk.mk (V bs 0 L R) (Fi (csOf bs)) (fun x hx => ?_) (cs_rows0 hb) (u_ok hb)
  obtain rfl := List.mem_singleton.1 hx
  simp only [RlOk, nzQ, nzZ]; omega
theorem ft_ok (hb : Okb bs) (hp : p ≤ bs.length + 2) (h1 : 1 ≤ L.length) (h2 : L.length ≤ 334) : @FkOk (V bs p L R) (Ft (csOf (bs.drop p))) := by
  have h := cs_len hb rfl hp
  have hb2 := hb.2
  refine @FkOk.mk (V bs p L R) (Ft (csOf (bs.drop p))) (fun x hx => ?_) (cs_rowsA hb) (u_ok hb)
  replace hx : x ∈ [Rl.mk kA kQ (csOf (bs.drop p)).lo (csOf (bs.drop p)).hi, .mk kZ kQ 1 1000, .mk kZ kA 0 1002, .mk kZ kL 1 334] := hx
  simp only [List.mem_cons, List.not_mem_nil, or_false] at hx
  rcases hx with rfl | rfl | rfl | rfl <;> simp only [RlOk, nzQ, nzZ, nzL, nzA] <;> omega
/-! how names turn -/
def bz : List (Key × Int × Int) := [(kQ, 1, 1000), (kB1, 0, 255), (kB2, 0, 255)]
theorem bz_ok (hb : Okb bs) : ∀ x ∈ bz, x.2.1 ≤ @nz (V bs p L R) x.1 ∧ @nz (V bs p L R) x.1 ≤ x.2.2 := by
  intro x hx
  have h1 := getD_lt hb (p + 1)
  have h2 := getD_lt hb (p + 2)
  have h3 := hb.2
  simp only [bz, List.mem_cons, List.not_mem_nil, or_false] at hx
  rcases hx with rfl | rfl | rfl <;> simp only [nzQ, nzB1, nzB2] <;> omega
def sgF1 (f : Key) : Sg := .mk [.mk kA kZ 3 0 1002, .mk kL kZ 1 1 334, .mk kQ kQ 0 1 1000] [(kQ, kQ)] [(f, 0, 1)] bz
def sgT1 (f : Key) : Sg := .mk [.mk kA kA 3 0 1002, .mk kL kL 1 1 334, .mk kQ kQ 0 1 1000] [(kQ, kQ)] [(f, 2, 1)] bz
theorem sgF1_ok (hb : Okb bs) (f : Key) (o : Od) : SgOk (V bs 0 [] []) (V bs 3 [o] []) (sgF1 f) := by
  have h3 := hb.2
  refine ⟨fun x hx => ?_, fun x hx => ?_, rfl, bz_ok hb⟩
  · simp only [sgF1, Sg.ns, List.mem_cons, List.not_mem_nil, or_false] at hx
    rcases hx with rfl | rfl | rfl <;> simp only [NnOk, nzA, nzL, nzQ, nzZ, List.length_cons, List.length_nil] <;> omega
  · obtain rfl := List.mem_singleton.1 hx; rfl
theorem sgT1_ok (hb : Okb bs) (f : Key) (o : Od) (hp : p < bs.length) (h2 : L.length + 1 ≤ 334) : SgOk (V bs p L []) (V bs (p + 3) (L ++ [o]) []) (sgT1 f) := by
  have h3 := hb.2
  refine ⟨fun x hx => ?_, fun x hx => ?_, rfl, bz_ok hb⟩
  · simp only [sgT1, Sg.ns, List.mem_cons, List.not_mem_nil, or_false] at hx
    rcases hx with rfl | rfl | rfl <;> simp only [NnOk, nzA, nzL, nzQ, nzZ, List.length_append, List.length_cons, List.length_nil] <;> omega
  · obtain rfl := List.mem_singleton.1 hx; rfl
theorem one_inv {v : Val} {μ : Mu} {e : List AV} {rows : List (List Value)} (h : VRR v μ [e] rows) : ∃ row, rows = [row] ∧ @VRs v μ e row := by
  cases h with
  | cons h1 h2 => cases h2; exact ⟨_, rfl, h1⟩
theorem orow_len (L : List Od) : ∀ row ∈ L.map orow, row.length = 3 := by
  intro row h
  obtain ⟨o, _, rfl⟩ := List.mem_map.1 h
  rfl
theorem newL (hb : Okb bs) (f : Key) : GrOk (V bs 0 [] []) (V bs 3 [odOf bs] []) (.new f kL 3 [(csOf bs).o]) := by
  refine ⟨(by rw [nzL, lL, List.length_map]), orow_len _, fun μ rows h => ?_⟩
  obtain ⟨row, rfl, h1⟩ := one_inv h
  rw [cs_od (L := []) (R := []) hb (p := 0) (by simp) (fun e => by have := hb.2.1; rw [e] at this; exact absurd this (by decide)) h1]; rfl
theorem growL (hb : Okb bs) (f : Key) (hd : bs.drop p ≠ []) : GrOk (V bs p L []) (V bs (p + 3) (L ++ [odOf (bs.drop p)]) []) (.grow f kL kL 3 [(csOf (bs.drop p)).o]) := by
  refine ⟨(by rw [nzL, lL, List.length_map]), orow_len _, fun μ rows h => ?_⟩
  obtain ⟨row, rfl, h1⟩ := one_inv h
  rw [cs_od hb rfl hd h1, lL, lL, List.map_append]; rfl
end
end
end Rd
end Back
end Go.Proofs.YtadnhmpkfelofaaGreatDoor
