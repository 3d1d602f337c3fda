/- THE EVALUATOR, part 1 of 12: EvData EvSem -/
import GoSem.Step
set_option linter.unusedVariables false
set_option linter.unusedSectionVars false
set_option linter.unusedSimpArgs false
/-
  Data of the evaluator: digits, trees of eight branches, abstract values, and eliminators typed by recursors. Printed by a program of ours.
-/
namespace Go.Ev
noncomputable section
set_option linter.unusedVariables false
inductive D where
  | d0
  | d1
  | d2
  | d3
  | d4
  | d5
  | d6
  | d7
inductive N (α : Type) where
  | mk (c0 c1 c2 c3 c4 c5 c6 c7 : α)
def N.sel {α : Type} (d : D) (n : N α) : α := (N.rec (motive := fun _ => α) (fun c0 c1 c2 c3 c4 c5 c6 c7 => D.rec (motive := fun _ => α) c0 c1 c2 c3 c4 c5 c6 c7 d) n)
def N.upd {α : Type} (d : D) (v : α) (n : N α) : N α := D.rec (motive := fun _ => α → N α → N α)
  (fun v n => N.rec (motive := fun _ => N α) (fun _ c1 c2 c3 c4 c5 c6 c7 => N.mk v c1 c2 c3 c4 c5 c6 c7) n)
  (fun v n => N.rec (motive := fun _ => N α) (fun c0 _ c2 c3 c4 c5 c6 c7 => N.mk c0 v c2 c3 c4 c5 c6 c7) n)
  (fun v n => N.rec (motive := fun _ => N α) (fun c0 c1 _ c3 c4 c5 c6 c7 => N.mk c0 c1 v c3 c4 c5 c6 c7) n)
  (fun v n => N.rec (motive := fun _ => N α) (fun c0 c1 c2 _ c4 c5 c6 c7 => N.mk c0 c1 c2 v c4 c5 c6 c7) n)
  (fun v n => N.rec (motive := fun _ => N α) (fun c0 c1 c2 c3 _ c5 c6 c7 => N.mk c0 c1 c2 c3 v c5 c6 c7) n)
  (fun v n => N.rec (motive := fun _ => N α) (fun c0 c1 c2 c3 c4 _ c6 c7 => N.mk c0 c1 c2 c3 c4 v c6 c7) n)
  (fun v n => N.rec (motive := fun _ => N α) (fun c0 c1 c2 c3 c4 c5 _ c7 => N.mk c0 c1 c2 c3 c4 c5 v c7) n)
  (fun v n => N.rec (motive := fun _ => N α) (fun c0 c1 c2 c3 c4 c5 c6 _ => N.mk c0 c1 c2 c3 c4 c5 c6 v) n) d v n
def N.mod {α : Type} (d : D) (f : α → α) (n : N α) : N α := D.rec (motive := fun _ => (α → α) → N α → N α)
  (fun f n => N.rec (motive := fun _ => N α) (fun c0 c1 c2 c3 c4 c5 c6 c7 => N.mk (f c0) c1 c2 c3 c4 c5 c6 c7) n)
  (fun f n => N.rec (motive := fun _ => N α) (fun c0 c1 c2 c3 c4 c5 c6 c7 => N.mk c0 (f c1) c2 c3 c4 c5 c6 c7) n)
  (fun f n => N.rec (motive := fun _ => N α) (fun c0 c1 c2 c3 c4 c5 c6 c7 => N.mk c0 c1 (f c2) c3 c4 c5 c6 c7) n)
  (fun f n => N.rec (motive := fun _ => N α) (fun c0 c1 c2 c3 c4 c5 c6 c7 => N.mk c0 c1 c2 (f c3) c4 c5 c6 c7) n)
  (fun f n => N.rec (motive := fun _ => N α) (fun c0 c1 c2 c3 c4 c5 c6 c7 => N.mk c0 c1 c2 c3 (f c4) c5 c6 c7) n)
  (fun f n => N.rec (motive := fun _ => N α) (fun c0 c1 c2 c3 c4 c5 c6 c7 => N.mk c0 c1 c2 c3 c4 (f c5) c6 c7) n)
  (fun f n => N.rec (motive := fun _ => N α) (fun c0 c1 c2 c3 c4 c5 c6 c7 => N.mk c0 c1 c2 c3 c4 c5 (f c6) c7) n)
  (fun f n => N.rec (motive := fun _ => N α) (fun c0 c1 c2 c3 c4 c5 c6 c7 => N.mk c0 c1 c2 c3 c4 c5 c6 (f c7)) n) d f n
def N.all {α : Type} (v : α) : N α := N.mk v v v v v v v v
theorem N.sel_upd {α : Type} (d : D) (v : α) (n : N α) : N.sel d (N.upd d v n) = v := by cases d <;> cases n <;> rfl
theorem N.sel_upd_ne {α : Type} {d e : D} (h : d ≠ e) (v : α) (n : N α) : N.sel e (N.upd d v n) = N.sel e n := by
  cases d <;> cases e <;> first | exact absurd rfl h | (cases n; rfl)
theorem N.mod_eq {α : Type} (d : D) (f : α → α) (n : N α) : N.mod d f n = N.upd d (f (N.sel d n)) n := by cases d <;> cases n <;> rfl
theorem N.sel_all {α : Type} (d : D) (v : α) : N.sel d (N.all v) = v := by cases d <;> rfl
def D.next (d : D) : D := D.rec (motive := fun _ => D) .d1 .d2 .d3 .d4 .d5 .d6 .d7 .d0 d
def D.last {R : Type} (d : D) (y z : R) : R := D.rec (motive := fun _ => R) z z z z z z z y d
def D.ofNat : Nat → D
  | 0 => .d0
  | 1 => .d1
  | 2 => .d2
  | 3 => .d3
  | 4 => .d4
  | 5 => .d5
  | 6 => .d6
  | _ => .d7
def D.toNat : D → Nat
  | .d0 => 0
  | .d1 => 1
  | .d2 => 2
  | .d3 => 3
  | .d4 => 4
  | .d5 => 5
  | .d6 => 6
  | .d7 => 7
def D.beq (a b : D) : Bool := Nat.beq a.toNat b.toNat
theorem D.beq_eq {a b : D} (h : D.beq a b = true) : a = b := by cases a <;> cases b <;> first | rfl | (exact absurd h (by decide))
theorem D.beq_ne {a b : D} (h : D.beq a b = false) : a ≠ b := by rintro rfl; cases a <;> exact absurd h (by decide)
inductive Key where
  | mk (a b c d e : D)
def Key.next (k : Key) : Key := Key.rec (motive := fun _ => Key) (fun a b c d e =>
  D.last e (D.last d (D.last c (D.last b (.mk a.next .d0 .d0 .d0 .d0) (.mk a b.next .d0 .d0 .d0)) (.mk a b c.next .d0 .d0)) (.mk a b c d.next .d0)) (.mk a b c d e.next)) k
def Key.ofNat (n : Nat) : Key := .mk (.ofNat (Nat.mod (Nat.div n 4096) 8)) (.ofNat (Nat.mod (Nat.div n 512) 8)) (.ofNat (Nat.mod (Nat.div n 64) 8)) (.ofNat (Nat.mod (Nat.div n 8) 8)) (.ofNat (Nat.mod n 8))
def Key.beq : Key → Key → Bool
  | .mk a b c d e, .mk a' b' c' d' e' => bif D.beq e e' then bif D.beq d d' then bif D.beq c c' then bif D.beq b b' then D.beq a a' else false else false else false else false
theorem Key.beq_eq {k l : Key} (h : Key.beq k l = true) : k = l := by
  cases k with | mk a b c d e => cases l with | mk a' b' c' d' e' =>
  simp only [Key.beq, cond_eq_ite] at h
  split at h
  · split at h
    · split at h
      · split at h
        · rename_i h1 h2 h3 h4
          rw [D.beq_eq h, D.beq_eq h1, D.beq_eq h2, D.beq_eq h3, D.beq_eq h4]
        · cases h
      · cases h
    · cases h
  · cases h
theorem Key.beq_refl (k : Key) : Key.beq k k = true := by
  have hd : ∀ d : D, D.beq d d = true := fun d => by cases d <;> rfl
  cases k; simp [Key.beq, hd]
theorem Key.beq_ne {k l : Key} (h : Key.beq k l = false) : k ≠ l := by
  rintro rfl; rw [Key.beq_refl] at h; cases h
def cnd {R : Type} (b : Bool) (t e : R) : R := Bool.rec (motive := fun _ => R) e t b
def opt {A R : Type} (o : Option A) (e : R) (s : A → R) : R := Option.rec (motive := fun _ => R) e s o
theorem cnd_true {R : Type} (t e : R) : cnd true t e = t := rfl
theorem cnd_false {R : Type} (t e : R) : cnd false t e = e := rfl
theorem opt_none {A R : Type} (e : R) (s : A → R) : opt none e s = e := rfl
theorem opt_some {A R : Type} (a : A) (e : R) (s : A → R) : opt (some a) e s = s a := rfl
inductive AFn where
  | fn (f : Fn)
  | yield (l : Key)
inductive AV where
  | top 
  | any 
  | ub 
  | bool (b : Bool)
  | int (k : IntKind) (n : Int)
  | rng (k : IntKind) (lo hi : Int)
  | md (k : IntKind) (m r : Nat)
  | sl (lo hi : Nat)
  | str (s : List Nat)
  | ptr0 
  | ptr (f : Key) (g o : Nat)
  | slice0 
  | slice (f : Key) (g o len cap sz : Nat) (ex : Bool)
  | map0 
  | map (m : Key)
  | func (fn : AFn) (first captured : List AV)
  | nilFunc 
  | iface (t : TypeId) (v : AV)
  | nilIface 
  | agg (cs : List AV)
  | tuple (vs : List AV)
  | sx (k : IntKind) (f : Key) (c lo hi : Int)
  | le (f : Key) (t : Int) (neg : Bool)
  | eqv (f : Key) (t : Int) (neg : Bool)
  | stx (l : List AV)
  | nsl (f : Key) (g sz : Nat) (k : Key) (c : Int) (q : Key) (d m : Int)
  | nix (f : Key) (g sz : Nat) (k : Key) (c : Int) (o : Nat)
  | stq (q : Key)
  | nv (q : Key) (sl : Bool)
def asBool {R : Type} (a : AV) (e : R) (k : Bool → R) : R := AV.rec (motive_1 := fun _ => R) (motive_2 := fun _ => Unit) e e e k (fun _ _ => e) (fun _ _ _ => e) (fun _ _ _ => e) (fun _ _ => e) (fun _ => e) e (fun _ _ _ => e) e (fun _ _ _ _ _ _ _ => e) e (fun _ => e) (fun _ _ _ _ _ => e) e (fun _ _ _ => e) e (fun _ _ => e) (fun _ _ => e) (fun _ _ _ _ _ => e) (fun _ _ _ => e) (fun _ _ _ => e) (fun _ _ => e) (fun _ _ _ _ _ _ _ _ => e) (fun _ _ _ _ _ _ => e) (fun _ => e) (fun _ _ => e) () (fun _ _ _ _ => ()) a
def asInt {R : Type} (a : AV) (e : R) (k : IntKind → Int → R) : R := AV.rec (motive_1 := fun _ => R) (motive_2 := fun _ => Unit) e e e (fun _ => e) k (fun _ _ _ => e) (fun _ _ _ => e) (fun _ _ => e) (fun _ => e) e (fun _ _ _ => e) e (fun _ _ _ _ _ _ _ => e) e (fun _ => e) (fun _ _ _ _ _ => e) e (fun _ _ _ => e) e (fun _ _ => e) (fun _ _ => e) (fun _ _ _ _ _ => e) (fun _ _ _ => e) (fun _ _ _ => e) (fun _ _ => e) (fun _ _ _ _ _ _ _ _ => e) (fun _ _ _ _ _ _ => e) (fun _ => e) (fun _ _ => e) () (fun _ _ _ _ => ()) a
def asStr {R : Type} (a : AV) (e : R) (k : List Nat → R) : R := AV.rec (motive_1 := fun _ => R) (motive_2 := fun _ => Unit) e e e (fun _ => e) (fun _ _ => e) (fun _ _ _ => e) (fun _ _ _ => e) (fun _ _ => e) k e (fun _ _ _ => e) e (fun _ _ _ _ _ _ _ => e) e (fun _ => e) (fun _ _ _ _ _ => e) e (fun _ _ _ => e) e (fun _ _ => e) (fun _ _ => e) (fun _ _ _ _ _ => e) (fun _ _ _ => e) (fun _ _ _ => e) (fun _ _ => e) (fun _ _ _ _ _ _ _ _ => e) (fun _ _ _ _ _ _ => e) (fun _ => e) (fun _ _ => e) () (fun _ _ _ _ => ()) a
def asPtr {R : Type} (a : AV) (e : R) (k : Key → Nat → Nat → R) : R := AV.rec (motive_1 := fun _ => R) (motive_2 := fun _ => Unit) e e e (fun _ => e) (fun _ _ => e) (fun _ _ _ => e) (fun _ _ _ => e) (fun _ _ => e) (fun _ => e) e k e (fun _ _ _ _ _ _ _ => e) e (fun _ => e) (fun _ _ _ _ _ => e) e (fun _ _ _ => e) e (fun _ _ => e) (fun _ _ => e) (fun _ _ _ _ _ => e) (fun _ _ _ => e) (fun _ _ _ => e) (fun _ _ => e) (fun _ _ _ _ _ _ _ _ => e) (fun _ _ _ _ _ _ => e) (fun _ => e) (fun _ _ => e) () (fun _ _ _ _ => ()) a
def asSlice {R : Type} (a : AV) (e : R) (k : Key → Nat → Nat → Nat → Nat → Nat → Bool → R) : R := AV.rec (motive_1 := fun _ => R) (motive_2 := fun _ => Unit) e e e (fun _ => e) (fun _ _ => e) (fun _ _ _ => e) (fun _ _ _ => e) (fun _ _ => e) (fun _ => e) e (fun _ _ _ => e) e k e (fun _ => e) (fun _ _ _ _ _ => e) e (fun _ _ _ => e) e (fun _ _ => e) (fun _ _ => e) (fun _ _ _ _ _ => e) (fun _ _ _ => e) (fun _ _ _ => e) (fun _ _ => e) (fun _ _ _ _ _ _ _ _ => e) (fun _ _ _ _ _ _ => e) (fun _ => e) (fun _ _ => e) () (fun _ _ _ _ => ()) a
def asMap {R : Type} (a : AV) (e : R) (k : Key → R) : R := AV.rec (motive_1 := fun _ => R) (motive_2 := fun _ => Unit) e e e (fun _ => e) (fun _ _ => e) (fun _ _ _ => e) (fun _ _ _ => e) (fun _ _ => e) (fun _ => e) e (fun _ _ _ => e) e (fun _ _ _ _ _ _ _ => e) e k (fun _ _ _ _ _ => e) e (fun _ _ _ => e) e (fun _ _ => e) (fun _ _ => e) (fun _ _ _ _ _ => e) (fun _ _ _ => e) (fun _ _ _ => e) (fun _ _ => e) (fun _ _ _ _ _ _ _ _ => e) (fun _ _ _ _ _ _ => e) (fun _ => e) (fun _ _ => e) () (fun _ _ _ _ => ()) a
def asFunc {R : Type} (a : AV) (e : R) (k : AFn → List AV → List AV → R) : R := AV.rec (motive_1 := fun _ => R) (motive_2 := fun _ => Unit) e e e (fun _ => e) (fun _ _ => e) (fun _ _ _ => e) (fun _ _ _ => e) (fun _ _ => e) (fun _ => e) e (fun _ _ _ => e) e (fun _ _ _ _ _ _ _ => e) e (fun _ => e) (fun x0 x1 x2 _ _ => k x0 x1 x2) e (fun _ _ _ => e) e (fun _ _ => e) (fun _ _ => e) (fun _ _ _ _ _ => e) (fun _ _ _ => e) (fun _ _ _ => e) (fun _ _ => e) (fun _ _ _ _ _ _ _ _ => e) (fun _ _ _ _ _ _ => e) (fun _ => e) (fun _ _ => e) () (fun _ _ _ _ => ()) a
def asIface {R : Type} (a : AV) (e : R) (k : TypeId → AV → R) : R := AV.rec (motive_1 := fun _ => R) (motive_2 := fun _ => Unit) e e e (fun _ => e) (fun _ _ => e) (fun _ _ _ => e) (fun _ _ _ => e) (fun _ _ => e) (fun _ => e) e (fun _ _ _ => e) e (fun _ _ _ _ _ _ _ => e) e (fun _ => e) (fun _ _ _ _ _ => e) e (fun x0 x1 _ => k x0 x1) e (fun _ _ => e) (fun _ _ => e) (fun _ _ _ _ _ => e) (fun _ _ _ => e) (fun _ _ _ => e) (fun _ _ => e) (fun _ _ _ _ _ _ _ _ => e) (fun _ _ _ _ _ _ => e) (fun _ => e) (fun _ _ => e) () (fun _ _ _ _ => ()) a
def asAgg {R : Type} (a : AV) (e : R) (k : List AV → R) : R := AV.rec (motive_1 := fun _ => R) (motive_2 := fun _ => Unit) e e e (fun _ => e) (fun _ _ => e) (fun _ _ _ => e) (fun _ _ _ => e) (fun _ _ => e) (fun _ => e) e (fun _ _ _ => e) e (fun _ _ _ _ _ _ _ => e) e (fun _ => e) (fun _ _ _ _ _ => e) e (fun _ _ _ => e) e (fun x0 _ => k x0) (fun _ _ => e) (fun _ _ _ _ _ => e) (fun _ _ _ => e) (fun _ _ _ => e) (fun _ _ => e) (fun _ _ _ _ _ _ _ _ => e) (fun _ _ _ _ _ _ => e) (fun _ => e) (fun _ _ => e) () (fun _ _ _ _ => ()) a
def asTuple {R : Type} (a : AV) (e : R) (k : List AV → R) : R := AV.rec (motive_1 := fun _ => R) (motive_2 := fun _ => Unit) e e e (fun _ => e) (fun _ _ => e) (fun _ _ _ => e) (fun _ _ _ => e) (fun _ _ => e) (fun _ => e) e (fun _ _ _ => e) e (fun _ _ _ _ _ _ _ => e) e (fun _ => e) (fun _ _ _ _ _ => e) e (fun _ _ _ => e) e (fun _ _ => e) (fun x0 _ => k x0) (fun _ _ _ _ _ => e) (fun _ _ _ => e) (fun _ _ _ => e) (fun _ _ => e) (fun _ _ _ _ _ _ _ _ => e) (fun _ _ _ _ _ _ => e) (fun _ => e) (fun _ _ => e) () (fun _ _ _ _ => ()) a
def asNsl {R : Type} (a : AV) (e : R) (k : Key → Nat → Nat → Key → Int → Key → Int → Int → R) : R := AV.rec (motive_1 := fun _ => R) (motive_2 := fun _ => Unit) e e e (fun _ => e) (fun _ _ => e) (fun _ _ _ => e) (fun _ _ _ => e) (fun _ _ => e) (fun _ => e) e (fun _ _ _ => e) e (fun _ _ _ _ _ _ _ => e) e (fun _ => e) (fun _ _ _ _ _ => e) e (fun _ _ _ => e) e (fun _ _ => e) (fun _ _ => e) (fun _ _ _ _ _ => e) (fun _ _ _ => e) (fun _ _ _ => e) (fun _ _ => e) k (fun _ _ _ _ _ _ => e) (fun _ => e) (fun _ _ => e) () (fun _ _ _ _ => ()) a
def asNix {R : Type} (a : AV) (e : R) (k : Key → Nat → Nat → Key → Int → Nat → R) : R := AV.rec (motive_1 := fun _ => R) (motive_2 := fun _ => Unit) e e e (fun _ => e) (fun _ _ => e) (fun _ _ _ => e) (fun _ _ _ => e) (fun _ _ => e) (fun _ => e) e (fun _ _ _ => e) e (fun _ _ _ _ _ _ _ => e) e (fun _ => e) (fun _ _ _ _ _ => e) e (fun _ _ _ => e) e (fun _ _ => e) (fun _ _ => e) (fun _ _ _ _ _ => e) (fun _ _ _ => e) (fun _ _ _ => e) (fun _ _ => e) (fun _ _ _ _ _ _ _ _ => e) k (fun _ => e) (fun _ _ => e) () (fun _ _ _ _ => ()) a
def AV.scalar (a : AV) : Bool := AV.rec (motive_1 := fun _ => Bool) (motive_2 := fun _ => Unit) false true true (fun _ => true) (fun _ _ => true) (fun _ _ _ => true) (fun _ _ _ => true) (fun _ _ => true) (fun _ => true) true (fun _ _ _ => true) true (fun _ _ _ _ _ _ _ => true) true (fun _ => true) (fun _ _ _ _ _ => true) true (fun _ _ _ => true) true (fun _ _ => false) (fun _ _ => false) (fun _ _ _ _ _ => true) (fun _ _ _ => true) (fun _ _ _ => true) (fun _ _ => true) (fun _ _ _ _ _ _ _ _ => true) (fun _ _ _ _ _ _ => true) (fun _ => true) (fun _ _ => true) () (fun _ _ _ _ => ()) a
abbrev Tm := N (N (N AV))
def tget (a b c : D) (t : Tm) : AV := (N.rec (motive := fun _ => AV) (fun c0 c1 c2 c3 c4 c5 c6 c7 => D.rec (motive := fun _ => AV) c0 c1 c2 c3 c4 c5 c6 c7 c) (N.rec (motive := fun _ => N AV) (fun c0 c1 c2 c3 c4 c5 c6 c7 => D.rec (motive := fun _ => N AV) c0 c1 c2 c3 c4 c5 c6 c7 b) (N.rec (motive := fun _ => N (N AV)) (fun c0 c1 c2 c3 c4 c5 c6 c7 => D.rec (motive := fun _ => N (N AV)) c0 c1 c2 c3 c4 c5 c6 c7 a) t)))
def tset (a b c : D) (v : AV) (t : Tm) : Tm := N.mod a (N.mod b (N.upd c v)) t
def tm0 : Tm := N.all (N.all (N.all .top))
theorem tget_eq (a b c : D) (t : Tm) : tget a b c t = N.sel c (N.sel b (N.sel a t)) := rfl
theorem tget_tset (a b c : D) (v : AV) (t : Tm) : tget a b c (tset a b c v t) = v := by
  simp only [tget_eq, tset, N.mod_eq, N.sel_upd]
theorem tget_tset_ne {a b c a' b' c' : D} (h : ¬ (a = a' ∧ b = b' ∧ c = c')) (v : AV) (t : Tm) : tget a' b' c' (tset a b c v t) = tget a' b' c' t := by
  simp only [tget_eq, tset, N.mod_eq]
  by_cases ha : a = a'
  · subst ha
    rw [N.sel_upd]
    by_cases hb : b = b'
    · subst hb
      rw [N.sel_upd, N.sel_upd_ne (fun hc => h ⟨rfl, rfl, hc⟩)]
    · rw [N.sel_upd_ne hb]
  · rw [N.sel_upd_ne ha]
theorem tget_tm0 (a b c : D) : tget a b c tm0 = .top := by simp only [tget_eq, tm0, N.sel_all]
end
end Go.Ev

namespace Go.Ev
noncomputable section
set_option linter.unusedVariables false
/-! ## tries, rows, objects -/
inductive Tr (α : Type) where
  | e
  | lf (v : α)
  | n (l r : Tr α)
def Tr.get {α : Type} (t : Tr α) : Nat → Option α :=
  Tr.rec (motive := fun _ => Nat → Option α) (fun _ => none) (fun v k => cnd (Nat.beq k 0) (some v) none)
    (fun _ _ gl gr k => cnd (Nat.beq (Nat.mod k 2) 0) (gl (Nat.div k 2)) (gr (Nat.div k 2))) t
def Tr.set {α : Type} (d : Nat) : Tr α → Nat → α → Tr α :=
  Nat.rec (motive := fun _ => Tr α → Nat → α → Tr α) (fun _ _ v => .lf v)
    (fun _ ih t k v => cnd (Nat.beq (Nat.mod k 2) 0)
      (Tr.rec (motive := fun _ => Tr α) (.n (ih .e (Nat.div k 2) v) .e) (fun _ => .n (ih .e (Nat.div k 2) v) .e) (fun l r _ _ => .n (ih l (Nat.div k 2) v) r) t)
      (Tr.rec (motive := fun _ => Tr α) (.n .e (ih .e (Nat.div k 2) v)) (fun _ => .n .e (ih .e (Nat.div k 2) v)) (fun l r _ _ => .n l (ih r (Nat.div k 2) v)) t)) d
def Tr.grow {α : Type} : Tr α → Tr α
  | .e => .e
  | .lf v => .n (.lf v) .e
  | .n l r => .n l.grow r.grow
def evens {α : Type} : List α → List α
  | [] => []
  | [a] => [a]
  | a :: _ :: r => a :: evens r
def odds {α : Type} : List α → List α
  | [] => []
  | [_] => []
  | _ :: b :: r => b :: odds r
def Tr.ofList {α : Type} : Nat → List α → Tr α
  | _, [] => .e
  | 0, a :: _ => .lf a
  | d + 1, a :: l => .n (Tr.ofList d (evens (a :: l))) (Tr.ofList d (odds (a :: l)))
inductive Row where
  | mk (l : List AV) (gw : Nat)
inductive En where
  | mk (k v : AV) (born : Nat)
def En.k : En → AV | .mk k _ _ => k
def En.v : En → AV | .mk _ v _ => v
def En.b : En → Nat | .mk _ _ b => b
inductive Df where
  | fn (fn : AFn) (captured : List AV) (args : List AV)
  | bi (b : Builtin) (args : List AV)
  | del (t : TypeId) (m k : AV)
  | collected (r : Key)
inductive Cx where
  | mk (nd n res : Nat)
def Cx.nd (x : Cx) : Nat := Cx.rec (motive := fun _ => Nat) (fun a _ _ => a) x
def Cx.n (x : Cx) : Nat := Cx.rec (motive := fun _ => Nat) (fun _ a _ => a) x
def Cx.res (x : Cx) : Nat := Cx.rec (motive := fun _ => Nat) (fun _ _ a => a) x
inductive Rl where
  | mk (k q : Key) (lo hi : Int)
  | mul (k : Key) (n : Int) (q : Key) (lo hi : Int)
  | ne (k q : Key)
  | zero (q : Key)
inductive Rf where
  | mk (q k : Key) (c : Int) (l : List AV)
inductive Sme where
  | mk (f : Nat) (vs : List AV) (a : AV) (nd : List (Key × Nat × Key))
class Fk where
  rel : List Rl
  rows : List Rf
  us : List Key
  sm : List Sme := []
  rv : AV := .bool true
@[reducible] def fk3 (rel : List Rl) (rows : List Rf) (us : List Key) : Fk := { rel, rows, us }
inductive Ob where
  | none
  | cells (ro : Bool) (gen sz dp ext : Nat) (c : Tr Row)
  | map (es : List En) (clock : Nat)
  | strIter (s : List Nat) (pos : Nat)
  | mapIter (m : Option Key) (since : Nat) (seen : List Nat) (stepped : Nat)
  | loop (st : LoopState) (pending : Option Code) (fn : Nat) (tm : Tm) (params : List Nat) (assign body : Code) (df : Key) (x : Cx)
  | deferred (ds : Option (List Df))
  | mapu (es : List En)
  | iv (lo hi : Int)
  | lst (ro : Bool) (gen sz : Nat) (q : Key) (sfx : List (List AV))
def asCells {R : Type} (o : Ob) (e : R) (k : Bool → Nat → Nat → Nat → Nat → Tr Row → R) : R :=
  Ob.rec (motive := fun _ => R) e k (fun _ _ => e) (fun _ _ => e) (fun _ _ _ _ => e) (fun _ _ _ _ _ _ _ _ _ => e) (fun _ => e) (fun _ => e) (fun _ _ => e) (fun _ _ _ _ _ => e) o
def asMapO {R : Type} (o : Ob) (e : R) (k : List En → Nat → R) : R :=
  Ob.rec (motive := fun _ => R) e (fun _ _ _ _ _ _ => e) k (fun _ _ => e) (fun _ _ _ _ => e) (fun _ _ _ _ _ _ _ _ _ => e) (fun _ => e) (fun _ => e) (fun _ _ => e) (fun _ _ _ _ _ => e) o
def asMapU {R : Type} (o : Ob) (e : R) (k : List En → R) : R :=
  Ob.rec (motive := fun _ => R) e (fun _ _ _ _ _ _ => e) (fun _ _ => e) (fun _ _ => e) (fun _ _ _ _ => e) (fun _ _ _ _ _ _ _ _ _ => e) (fun _ => e) k (fun _ _ => e) (fun _ _ _ _ _ => e) o
def asIv {R : Type} (o : Ob) (e : R) (k : Int → Int → R) : R :=
  Ob.rec (motive := fun _ => R) e (fun _ _ _ _ _ _ => e) (fun _ _ => e) (fun _ _ => e) (fun _ _ _ _ => e) (fun _ _ _ _ _ _ _ _ _ => e) (fun _ => e) (fun _ => e) k (fun _ _ _ _ _ => e) o
def asLst {R : Type} (o : Ob) (e : R) (k : Bool → Nat → Nat → Key → List (List AV) → R) : R :=
  Ob.rec (motive := fun _ => R) e (fun _ _ _ _ _ _ => e) (fun _ _ => e) (fun _ _ => e) (fun _ _ _ _ => e) (fun _ _ _ _ _ _ _ _ _ => e) (fun _ => e) (fun _ => e) (fun _ _ => e) k o
def Ob.isLst (o : Ob) : Bool := asLst o false fun _ _ _ _ _ => true
def Ob.isNone (o : Ob) : Bool :=
  Ob.rec (motive := fun _ => Bool) true (fun _ _ _ _ _ _ => false) (fun _ _ => false) (fun _ _ => false) (fun _ _ _ _ => false) (fun _ _ _ _ _ _ _ _ _ => false) (fun _ => false) (fun _ => false) (fun _ _ => false) (fun _ _ _ _ _ => false) o
abbrev Hp := N (N (N (N (N Ob))))
def hget (k : Key) (h : Hp) : Ob := Key.rec (motive := fun _ => Ob) (fun a b c d e => N.sel e (N.sel d (N.sel c (N.sel b (N.sel a h))))) k
def hset (k : Key) (o : Ob) (h : Hp) : Hp := Key.rec (motive := fun _ => Hp) (fun a b c d e =>
  N.mod a (N.mod b (N.mod c (N.mod d (N.upd e o)))) h) k
def hp0 : Hp := N.all (N.all (N.all (N.all (N.all .none))))
/-! ## numbers -/
def icase {R : Type} (n : Int) (p q : Nat → R) : R := Int.rec (motive := fun _ => R) p q n
def ieq (a b : Int) : Bool := icase a (fun x => icase b (fun y => Nat.beq x y) (fun _ => false)) (fun x => icase b (fun _ => false) (fun y => Nat.beq x y))
def ile (a b : Int) : Bool := icase a (fun x => icase b (fun y => Nat.ble x y) (fun _ => false)) (fun x => icase b (fun _ => true) (fun y => Nat.ble y x))
def bnot (b : Bool) : Bool := cnd b false true
def ilt (a b : Int) : Bool := bnot (ile b a)
def leq (l : List Nat) : List Nat → Bool :=
  List.rec (motive := fun _ => List Nat → Bool) (fun m => List.rec (motive := fun _ => Bool) true (fun _ _ _ => false) m)
    (fun a _ ih m => List.rec (motive := fun _ => Bool) false (fun b m' _ => cnd (Nat.beq a b) (ih m') false) m) l
def llt : List Nat → List Nat → Bool
  | _, [] => false
  | [], _ :: _ => true
  | a :: x, b :: y => cnd (Nat.blt a b) true (cnd (Nat.beq a b) (llt x y) false)
def keq (a b : IntKind) : Bool :=
  IntKind.rec (motive := fun _ => Bool)
    (IntKind.rec (motive := fun _ => Bool) true false false false false false false false b)
    (IntKind.rec (motive := fun _ => Bool) false true false false false false false false b)
    (IntKind.rec (motive := fun _ => Bool) false false true false false false false false b)
    (IntKind.rec (motive := fun _ => Bool) false false false true false false false false b)
    (IntKind.rec (motive := fun _ => Bool) false false false false true false false false b)
    (IntKind.rec (motive := fun _ => Bool) false false false false false true false false b)
    (IntKind.rec (motive := fun _ => Bool) false false false false false false true false b)
    (IntKind.rec (motive := fun _ => Bool) false false false false false false false true b) a
def kmax (k : IntKind) : Nat :=
  IntKind.rec (motive := fun _ => Nat) 127 32767 2147483647 9223372036854775807 255 65535 4294967295 18446744073709551615 k
def natF {R : Type} (n : Nat) (k : Nat → R) : R := Nat.rec (motive := fun _ => R) (k 0) (fun m _ => k (Nat.succ m)) n
def mkInt (k : IntKind) (n : Int) : AV :=
  icase n (fun a => cnd (Nat.ble a (kmax k)) (natF a fun a => .int k (.ofNat a)) (.int k (k.wrap n))) (fun _ => .int k (k.wrap n))
def iadd (a b : Int) : Int := icase a (fun x => icase b (fun y => .ofNat (Nat.add x y)) (fun _ => Int.add a b)) (fun _ => Int.add a b)
def isub (a b : Int) : Int := icase a (fun x => icase b (fun y => cnd (Nat.ble y x) (.ofNat (Nat.sub x y)) (Int.sub a b)) (fun _ => Int.sub a b)) (fun _ => Int.sub a b)
/-! ## named places of lists -/
def kZ : Key := .mk .d7 .d7 .d7 .d7 .d7
def findRl (a b : Key) : List Rl → Option (Int × Int)
  | [] => none
  | .mk k q lo hi :: l => cnd (cnd (Key.beq k a) (Key.beq q b) false) (some (lo, hi)) (cnd (cnd (Key.beq k b) (Key.beq q a) false) (some (isub 0 hi, isub 0 lo)) (findRl a b l))
  | .mul _ _ _ _ _ :: l => findRl a b l
  | .ne _ _ :: l => findRl a b l
  | .zero _ :: l => findRl a b l
def findNe (a b : Key) : List Rl → Bool
  | [] => false
  | .ne k q :: l => cnd (cnd (Key.beq k a) (Key.beq q b) false) true (cnd (cnd (Key.beq k b) (Key.beq q a) false) true (findNe a b l))
  | .mk _ _ _ _ :: l => findNe a b l
  | .zero _ :: l => findNe a b l
  | .mul _ _ _ _ _ :: l => findNe a b l
def findRf (q k : Key) (c : Int) : List Rf → Option (List AV)
  | [] => none
  | .mk q' k' c' l :: r => cnd (cnd (Key.beq q q') (cnd (Key.beq k k') (ieq c c') false) false) (some l) (findRf q k c r)
variable [Fk]
def relOf (a b : Key) : Option (Int × Int) := findRl a b Fk.rel
def factRow (q k : Key) (c : Int) : Option (List AV) := findRf q k c Fk.rows
def leX (a : Key) (c : Int) (b : Key) (d : Int) : Bool :=
  cnd (Key.beq a b) (ile c d) (opt (relOf a b) false fun p => ile c (iadd p.1 d))
def disX (a : Key) (c : Int) (b : Key) (d : Int) : Option Int :=
  cnd (Key.beq a b) (some (isub d c)) (opt (relOf a b) none fun p => cnd (ieq p.1 p.2) (some (isub (iadd p.1 d) c)) none)
def rowN (h : Hp) (f : Key) (g sz : Nat) (k : Key) (c : Int) : Option (List AV) :=
  asLst (hget f h) none fun _ gen z q sfx => cnd (Nat.beq z sz) (cnd (Key.beq k q) (icase c (fun i => cnd (Nat.beq g gen) sfx[i]? none) (fun _ => factRow q k c)) (factRow q k c)) none
def rowsN (h : Hp) (f : Key) (g sz : Nat) (k : Key) : Int → Nat → Option (List (List AV))
  | _, 0 => some []
  | c, n + 1 => match rowN h f g sz k c, rowsN h f g sz k (iadd c 1) n with
    | some l, some ls => some (l :: ls)
    | _, _ => none
/-! ## types, as far as '==' asks -/
inductive Ty where
  | bool | int | str | ptr | iface | slice | map | func
  | arr (n sz : Nat) (agg : Bool) (t : Ty)
  | fnil
  | fcons (off n : Nat) (agg : Bool) (t rest : Ty)
  | bad
structure Env where
  P : Program
  ts : Tr TypeInfo
  fs : Tr Func
  sum : Nat
  /-- the package-level variables that are known, as bits -/
  gm : Nat
  /-- the function that the run began with -/
  root : Nat := 0
def inM (m i : Nat) : Bool := Nat.beq (Nat.land m (Nat.pow 2 i)) (Nat.pow 2 i)
def inNd (nd t : Nat) : Bool := bif Nat.blt t 512 then inM nd t else false
def Env.of (P : Program) (sum gm : Nat) : Env := { P, ts := Tr.ofList 10 P.types.toList, fs := Tr.ofList 10 P.funcs.toList, sum, gm }
def Env.und (E : Env) (t : TypeId) : Option TypeDesc :=
  match E.ts.get t with
  | some i => match i.desc with
    | .named _ u => match E.ts.get u with
      | some j => some j.desc
      | none => none
    | d => some d
  | none => none
def Env.size (E : Env) (t : TypeId) : Option Nat :=
  match E.ts.get t with
  | some i => some i.size
  | none => none
def isAggT : TypeDesc → Bool
  | .struct _ => true
  | .array _ _ => true
  | _ => false
def Env.szA (E : Env) (t : TypeId) : Option (Nat × Bool) :=
  match E.und t, E.size t with
  | some d, some n => some (n, isAggT d)
  | _, _ => none
def tyFs (E : Env) (f : TypeId → Ty) : List Field → Ty
  | [] => .fnil
  | x :: xs => bif decide (x.name = "_") then tyFs E f xs else match E.szA x.type with
    | some (n, a) => .fcons x.offset n a (f x.type) (tyFs E f xs)
    | none => .bad
def tyOf (E : Env) : Nat → TypeId → Ty
  | 0, _ => .bad
  | d + 1, t => match E.und t with
    | some .bool => .bool
    | some (.int _) => .int
    | some .string => .str
    | some (.pointer el) => match E.size el with
      | some (_ + 1) => .ptr
      | _ => .bad
    | some (.interface _) => .iface
    | some (.slice _) => .slice
    | some (.map _ _) => .map
    | some (.func _ _ _) => .func
    | some (.struct fs) => bif E.P.stoodInHeld t then .bad else tyFs E (tyOf E d) fs.toList
    | _ => .bad
def cutA (agg : Bool) (n : Nat) (cs : List AV) (off : Nat) : Option AV :=
  cnd agg (some (.agg ((cs.drop off).take n))) cs[off]?
def eqArr (eq : AV → AV → Option Bool) (agg : Bool) (n : Nat) : Nat → List AV → List AV → Option Bool
  | 0, _, _ => some true
  | k + 1, xs, ys =>
    match cutA agg n xs 0, cutA agg n ys 0 with
    | some a, some b => match eq a b with
      | some true => eqArr eq agg n k (xs.drop n) (ys.drop n)
      | some false => some false
      | none => none
    | _, _ => none
def eqFs (eq : Ty → AV → AV → Option Bool) (xs ys : List AV) : Ty → Option Bool
  | .fnil => some true
  | .fcons off n agg t rest =>
    match cutA agg n xs off, cutA agg n ys off with
    | some a, some b => match eq t a b with
      | some true => eqFs eq xs ys rest
      | some false => some false
      | none => none
    | _, _ => none
  | _ => none
def strGen : Nat := 65536
def ptrEq (f : Key) (g o : Nat) (f' : Key) (g' o' : Nat) : Option Bool :=
  cnd (Key.beq f f') (cnd (Nat.beq g g') (some (Nat.beq o o')) (cnd (Nat.beq o o') none (cnd (Nat.blt g strGen) (cnd (Nat.blt g' strGen) (some false) none) none)))
    (cnd (Nat.blt g strGen) (cnd (Nat.blt g' strGen) (some false) none) none)
def fitK (k : IntKind) (lo hi : Int) : Bool :=
  match k with
  | .i64 => cnd (ile (-9223372036854775808) lo) (ile hi 9223372036854775807) false
  | .u8 => cnd (ile 0 lo) (ile hi 255) false
  | .u32 => cnd (ile 0 lo) (ile hi 4294967295) false
  | _ => false
def sxNe (k : IntKind) (f : Key) (c lo hi : Int) (f' : Key) (c' lo' hi' : Int) : Bool :=
  cnd (ieq c 0) (cnd (ieq c' 0) (cnd (cnd (Key.beq f kZ) true (Key.beq f' kZ)) false (cnd (fitK k lo hi) (cnd (fitK k lo' hi') (findNe f f' Fk.rel) false) false)) false) false
def sxEqv (x y : AV) : Option Bool :=
  match x, y with
  | .sx k f c lo hi, .sx l f' c' lo' hi' => cnd (keq k l) (cnd (Key.beq f f') (cnd (ieq c c') (some true) none) (cnd (sxNe k f c lo hi f' c' lo' hi') (some false) none)) none
  | .sx k _ _ lo hi, .int l n => cnd (keq k l) (cnd (fitK k lo hi) (cnd (ilt n lo) (some false) (cnd (ilt hi n) (some false) none)) none) none
  | .int l n, .sx k _ _ lo hi => cnd (keq k l) (cnd (fitK k lo hi) (cnd (ilt n lo) (some false) (cnd (ilt hi n) (some false) none)) none) none
  | _, _ => none
def bEqv (x y : AV) : Option Bool :=
  match x, y with
  | .eqv f t n, .eqv f' t' n' => cnd (Key.beq f f') (cnd (ieq t t') (cnd (cnd n n' (bnot n')) (some true) none) none) none
  | _, _ => none
def aeq (E : Env) : Nat → Ty → AV → AV → Option Bool
  | 0, _, _, _ => none
  | d + 1, t, x, y =>
    match t with
    | .bool => opt (asBool x none fun a => asBool y none fun b => some (cnd a b (bnot b))) (bEqv x y) some
    | .int => asInt x (sxEqv x y) fun k a => asInt y (sxEqv x y) fun l b => cnd (keq k l) (some (ieq a b)) none
    | .str => asStr x none fun a => asStr y none fun b => some (leq a b)
    | .ptr => match x, y with
      | .ptr0, .ptr0 => some true
      | .ptr0, .ptr _ _ _ => some false
      | .ptr _ _ _, .ptr0 => some false
      | .ptr f g o, .ptr f' g' o' => ptrEq f g o f' g' o'
      | _, _ => none
    | .iface => match x, y with
      | .nilIface, .nilIface => some true
      | .nilIface, .iface _ _ => some false
      | .iface _ _, .nilIface => some false
      | .iface tx vx, .iface ty vy => cnd (Nat.beq tx ty) (match E.ts.get tx with
          | some i => cnd i.comparable (aeq E d (tyOf E 8 tx) vx vy) none
          | none => none) (some false)
      | _, _ => none
    | .slice => match x, y with
      | .slice0, .slice0 => some true
      | .slice0, .slice _ _ _ _ _ _ _ => some false
      | .slice _ _ _ _ _ _ _, .slice0 => some false
      | _, _ => none
    | .map => match x, y with
      | .map0, .map0 => some true
      | .map0, .map _ => some false
      | .map _, .map0 => some false
      | _, _ => none
    | .func => match x, y with
      | .nilFunc, .nilFunc => some true
      | .nilFunc, .func _ _ _ => some false
      | .func _ _ _, .nilFunc => some false
      | _, _ => none
    | .arr n sz agg t => asAgg x none fun xs => asAgg y none fun ys => eqArr (aeq E d t) agg sz n xs ys
    | .fnil => asAgg x none fun xs => asAgg y none fun ys => eqFs (aeq E d) xs ys .fnil
    | .fcons a b c t r => asAgg x none fun xs => asAgg y none fun ys => eqFs (aeq E d) xs ys (.fcons a b c t r)
    | .bad => none
/-! ## values out of the program's text -/
mutual
def ofV : Value → AV
  | .bool b => .bool b
  | .int k (.ofNat n) => .int k (.ofNat n)
  | .int k n => .int k n
  | .string s => .str (s.data.toList.map UInt8.toNat)
  | .pointer none => .ptr0
  | .slice none 0 0 => .slice0
  | .map none => .map0
  | .func f ⟨fs⟩ ⟨cs⟩ => .func (.fn f) (ofVs fs) (ofVs cs)
  | .nilFunc => .nilFunc
  | .nilIface => .nilIface
  | .iface t v => .iface t (ofV v)
  | .agg ⟨cs⟩ => .agg (ofVs cs)
  | .tuple ⟨cs⟩ => .tuple (ofVs cs)
  | _ => .top
def ofVs : List Value → List AV
  | [] => []
  | v :: vs => ofV v :: ofVs vs
end
def AV.cells (a : AV) : List AV := asAgg a [a] fun l => l
def cellsK {R : Type} (a : AV) (e : R) (k : List AV → R) : R := asAgg a (cnd a.scalar (k [a]) e) k
inductive Opd where
  | t (a b c : D)
  | c (v : AV)
  | w0
  | w1
  | w2
inductive Lo where
  | mk (tm : Tm) (w0 w1 w2 : AV)
def Lo.tm (L : Lo) : Tm := Lo.rec (motive := fun _ => Tm) (fun tm _ _ _ => tm) L
def slot {R : Type} (t : Nat) (k : D → D → D → R) : R :=
  k (.ofNat (Nat.mod (Nat.div t 64) 8)) (.ofNat (Nat.mod (Nat.div t 8) 8)) (.ofNat (Nat.mod t 8))
def getO (x : Opd) (L : Lo) : AV := Lo.rec (motive := fun _ => AV) (fun tm w0 w1 w2 => Opd.rec (motive := fun _ => AV) (fun a b c => tget a b c tm) (fun v => v) w0 w1 w2 x) L
def getOs (xs : List Opd) (L : Lo) : List AV := List.rec (motive := fun _ => List AV) [] (fun x _ ih => getO x L :: ih) xs
inductive Dst where
  | no
  | w
  | s (a b c : D)
  | o (a b c : D)
def put (d : Dst) (v : AV) (L : Lo) : Lo := Lo.rec (motive := fun _ => Lo) (fun tm w0 w1 w2 =>
  Dst.rec (motive := fun _ => Lo) (.mk tm w0 w1 w2) (.mk tm v w0 w1) (fun a b c => .mk (tset a b c v tm) v w0 w1) (fun a b c => .mk (tset a b c v tm) w0 w1 w2) d) L
/-! ## instructions that turn nothing -/
inductive PI where
  | mv (x : Opd)
  | pick (c a b : Opd)
  | load1 (x : Opd)
  | loadN (n : Nat) (x : Opd)
  | ibin (op : BinOp) (x y : Opd)
  | eqv (neg : Bool) (ty : Ty) (sure : Bool) (x y : Opd)
  | un (op : UnOp) (x : Opd)
  | convI (k : IntKind) (x : Opd)
  | convS (x : Opd)
  | b2s (x : Opd)
  | iface (t : TypeId) (x : Opd)
  | func (fn : Fn) (first cap : List Opd)
  | sliceStr (x : Opd) (lo hi : Option Opd)
  | sliceSl (n : Nat) (x : Opd) (lo hi mx : Option Opd)
  | sliceArr (n sz : Nat) (x : Opd) (lo hi mx : Option Opd)
  | addOff (n : Nat) (x : Opd)
  | idxSl (n : Nat) (x ix : Opd)
  | idxArr (n sz : Nat) (x ix : Opd)
  | idxStr (x ix : Opd)
  | idxAgg (n sz : Nat) (agg : Bool) (x ix : Opd)
  | field (off n : Nat) (agg : Bool) (x : Opd)
  | lookup (kt : Ty) (z : AV) (ok : Bool) (x k : Opd)
  | lenStr (x : Opd)
  | lenSl (x : Opd)
  | lenC (n : Nat)
  | lenMap (x : Opd)
  | capSl (x : Opd)
  | assertC (t : TypeId) (z : AV) (ok : Bool) (x : Opd)
  | assertI (want : List (String × TypeId)) (z : AV) (ok : Bool) (x : Opd)
  | extract (i : Nat) (x : Opd)
  | build (z : List AV) (ps : List (Nat × Nat × Opd))
  | nilck (x : Opd)
  | minmax (mx : Bool) (x : Opd) (xs : List Opd)
  | entry (x : Opd)
  | waits (g : Key)
  | bad
def AV.some (a : AV) : Option AV := AV.casesOn (motive_1 := fun _ => Option AV) a (.some .top) (.some .any) (.some .ub) (fun b => .some (.bool b)) (fun k n => .some (.int k n)) (fun k a b => .some (.rng k a b)) (fun k a b => .some (.md k a b)) (fun a b => .some (.sl a b)) (fun s => .some (.str s)) (.some .ptr0) (fun a b c => .some (.ptr a b c)) (.some .slice0) (fun a b c d e f g => .some (.slice a b c d e f g)) (.some .map0) (fun m => .some (.map m)) (fun a b c => .some (.func a b c)) (.some .nilFunc) (fun t v => .some (.iface t v)) (.some .nilIface) (fun l => .some (.agg l)) (fun l => .some (.tuple l)) (fun k f c a b => .some (.sx k f c a b)) (fun f t n => .some (.le f t n)) (fun f t n => .some (.eqv f t n)) (fun l => .some (.stx l)) (fun a b c d e f g i => .some (.nsl a b c d e f g i)) (fun a b c d e f => .some (.nix a b c d e f)) (fun q => .some (.stq q)) (fun a b => .some (.nv a b))
def nthA (l : List AV) : Nat → Option AV :=
  List.rec (motive := fun _ => Nat → Option AV) (fun _ => none) (fun a _ ih j => Nat.rec (motive := fun _ => Option AV) a.some (fun j' _ => ih j') j) l
def nthN {R : Type} (e : R) (k : Nat → R) (l : List Nat) : Nat → R :=
  List.rec (motive := fun _ => Nat → R) (fun _ => e) (fun a _ ih j => Nat.rec (motive := fun _ => R) (k a) (fun j' _ => ih j') j) l
def setNth (v : AV) (l : List AV) : Nat → List AV :=
  List.rec (motive := fun _ => Nat → List AV) (fun _ => []) (fun a l' ih j => Nat.rec (motive := fun _ => List AV) (v :: l') (fun j' _ => a :: ih j') j) l
def rowAt (h : Hp) (f : Key) (g o : Nat) : Option (Nat × List AV × Nat) :=
  asCells (hget f h) none fun _ _ sz _ _ c =>
    opt (c.get (Nat.div o sz)) none fun r => Row.rec (motive := fun _ => Option (Nat × List AV × Nat)) (fun l gw => cnd (Nat.ble gw g) (.some (sz, l, Nat.mod o sz)) none) r
def getCell (h : Hp) (f : Key) (g o : Nat) : Option AV :=
  asCells (hget f h) none fun _ _ sz _ _ c =>
    opt (c.get (Nat.div o sz)) none fun r => Row.rec (motive := fun _ => Option AV) (fun l gw => cnd (Nat.ble gw g) (nthA l (Nat.mod o sz)) none) r
def getRows (c : Tr Row) (g : Nat) : Nat → Nat → Option (List (List AV))
  | 0, _ => .some []
  | n + 1, r => match c.get r with
    | .some (.mk l gw) => cnd (Nat.ble gw g) (match getRows c g n (r + 1) with
        | .some ls => .some (l :: ls)
        | none => none) none
    | none => none
def flat : List (List AV) → List AV
  | [] => []
  | l :: ls => l ++ flat ls
def getCells (h : Hp) (f : Key) (g o n : Nat) : Option (List AV) :=
  cnd (Nat.beq n 0) (.some []) <|
  asCells (hget f h) none fun _ _ sz _ _ c =>
    cnd (Nat.ble (Nat.add (Nat.mod o sz) n) sz)
      (opt (c.get (Nat.div o sz)) none fun r => Row.rec (motive := fun _ => Option (List AV)) (fun l gw => cnd (Nat.ble gw g)
        (cnd (Nat.beq n sz) (.some l) (.some ((l.drop (Nat.mod o sz)).take n))) none) r)
      (cnd (Nat.beq (Nat.mod o sz) 0) (cnd (Nat.beq (Nat.mod n sz) 0) (match getRows c g (Nat.div n sz) (Nat.div o sz) with
        | .some ls => .some (flat ls)
        | none => none) none) none)
def bool {R : Type} (b : Bool) (k : Bool → R) : R := cnd b (k true) (k false)
def sxK (k : IntKind) : Bool :=
  match k with
  | .i64 => true
  | .u8 => true
  | _ => false
def ibinR (op : BinOp) (a b : AV) : Option AV :=
  match a, b with
  | .rng k lo hi, .int l n => cnd (keq k l) (match op with
      | .lss => cnd (ilt hi n) (.some (.bool true)) (cnd (ile n lo) (.some (.bool false)) (.some .ub))
      | .leq => cnd (ile hi n) (.some (.bool true)) (cnd (ilt n lo) (.some (.bool false)) (.some .ub))
      | .gtr => cnd (ilt n lo) (.some (.bool true)) (cnd (ile hi n) (.some (.bool false)) (.some .ub))
      | .geq => cnd (ile n lo) (.some (.bool true)) (cnd (ilt hi n) (.some (.bool false)) (.some .ub))
      | _ => none) none
  | .int l n, .rng k lo hi => cnd (keq k l) (match op with
      | .lss => cnd (ilt n lo) (.some (.bool true)) (cnd (ile hi n) (.some (.bool false)) (.some .ub))
      | .leq => cnd (ile n lo) (.some (.bool true)) (cnd (ilt hi n) (.some (.bool false)) (.some .ub))
      | _ => none) none
  | .md k m r, .int l n => cnd (keq k l) (match op with
      | .lss => cnd (ile n 0) (.some (.bool false)) none
      | .rem => cnd (ieq n (.ofNat m)) (cnd (Nat.blt 0 m) (.some (.int k (.ofNat r))) none) none
      | _ => none) none
  | .sx k f c lo hi, .int l n => cnd (keq k l) (cnd (sxK k) (match op with
      | .add => .some (.sx k f (iadd c n) (iadd lo n) (iadd hi n))
      | .sub => .some (.sx k f (isub c n) (isub lo n) (isub hi n))
      | _ => none) none) none
  | .int l n, .sx k f c lo hi => cnd (keq k l) (cnd (sxK k) (match op with
      | .add => .some (.sx k f (iadd c n) (iadd lo n) (iadd hi n))
      | _ => none) none) none
  | _, _ => none
def sxCmp (h : Hp) (k : IntKind) (f : Key) (c t : Int) (neg : Bool) : Option AV :=
  asIv (hget f h) none fun lo hi => cnd (fitK k (iadd lo c) (iadd hi c)) (cnd (ile hi t) (.some (.bool (bnot neg))) (cnd (ilt t lo) (.some (.bool neg)) (.some (.le f t neg)))) none
def sxEq (h : Hp) (k : IntKind) (f : Key) (c t : Int) (neg : Bool) : Option AV :=
  asIv (hget f h) none fun lo hi => cnd (fitK k (iadd lo c) (iadd hi c)) (cnd (ilt t lo) (.some (.bool neg)) (cnd (ilt hi t) (.some (.bool neg)) (cnd (cnd (ieq lo t) (ieq hi t) false) (.some (.bool (bnot neg))) (.some (.eqv f t neg))))) none
def sxNorm (h : Hp) (x : AV) : AV :=
  match x with
  | .sx .u8 f c a b => asIv (hget f h) (.sx .u8 f c a b) fun lo hi => cnd (cnd (ieq lo hi) (fitK .u8 (iadd lo c) (iadd lo c)) false) (.int .u8 (iadd lo c)) (.sx .u8 f c a b)
  | x => x
def avSame (x y : AV) : Option Bool :=
  match x, y with
  | .int _ a, .int _ b => .some (ieq a b)
  | .sx _ f c _ _, .sx _ f' c' _ _ => cnd (Key.beq f f') (cnd (ieq c c') (.some true) none) none
  | _, _ => none
def stSame (h : Hp) : List AV → List AV → Option Bool
  | [], [] => .some true
  | x :: xs, y :: ys => match avSame (sxNorm h x) (sxNorm h y), stSame h xs ys with
    | .some true, r => r
    | .some false, .some _ => .some false
    | none, .some false => .some false
    | _, _ => none
  | _, _ => .some false
def natAs : List Nat → List AV
  | [] => []
  | n :: l => .int .u8 (.ofNat n) :: natAs l
def stCmp (h : Hp) (op : BinOp) (a b : List AV) : Option AV :=
  match op with
  | .eql => opt (stSame h a b) none fun r => bool r fun r => .some (.bool r)
  | .neq => opt (stSame h a b) none fun r => bool r fun r => .some (.bool (bnot r))
  | _ => none
def ibinS (h : Hp) (op : BinOp) (a b : AV) : Option AV :=
  match a, b with
  | .sx k f c _ _, .int l n => cnd (keq k l) (match op with
      | .lss => sxCmp h k f c (isub (isub n c) 1) false
      | .leq => sxCmp h k f c (isub n c) false
      | .gtr => sxCmp h k f c (isub n c) true
      | .geq => sxCmp h k f c (isub (isub n c) 1) true
      | .eql => sxEq h k f c (isub n c) false
      | .neq => sxEq h k f c (isub n c) true
      | _ => none) none
  | .int l n, .sx k f c _ _ => cnd (keq k l) (match op with
      | .lss => sxCmp h k f c (isub n c) true
      | .leq => sxCmp h k f c (isub (isub n c) 1) true
      | .gtr => sxCmp h k f c (isub (isub n c) 1) false
      | .geq => sxCmp h k f c (isub n c) false
      | .eql => sxEq h k f c (isub n c) false
      | .neq => sxEq h k f c (isub n c) true
      | _ => none) none
  | .stx a, .stx b => stCmp h op a b
  | .stx a, .str b => stCmp h op a (natAs b)
  | .str a, .stx b => stCmp h op (natAs a) b
  | a, b => ibinR op a b
def strOp (op : BinOp) (x y : List Nat) : Option AV :=
  match op with
  | .add => cnd (Nat.ble (x.length + y.length) 1000000) (.some (.str (x ++ y))) none
  | .eql => .some (.bool (leq x y))
  | .neq => .some (.bool (bnot (leq x y)))
  | .lss => .some (.bool (llt x y))
  | .leq => .some (.bool (bnot (llt y x)))
  | .gtr => .some (.bool (llt y x))
  | .geq => .some (.bool (bnot (llt x y)))
  | _ => none
def iarith (op : BinOp) (k : IntKind) (a b : Int) : Option AV :=
  BinOp.rec (motive := fun _ => Option AV)
    (.some (mkInt k (iadd a b))) (.some (mkInt k (isub a b))) (.some (mkInt k (Int.mul a b)))
    (cnd (ieq b (.ofNat 0)) none (.some (mkInt k (Int.tdiv a b)))) (cnd (ieq b (.ofNat 0)) none (.some (.int k (Int.tmod a b))))
    (.some (.int k (k.wrap (BitVec.ofInt k.bits a &&& BitVec.ofInt k.bits b).toNat)))
    (.some (.int k (k.wrap (BitVec.ofInt k.bits a ||| BitVec.ofInt k.bits b).toNat)))
    (.some (.int k (k.wrap (BitVec.ofInt k.bits a ^^^ BitVec.ofInt k.bits b).toNat)))
    none none
    (.some (.int k (k.wrap (BitVec.ofInt k.bits a &&& ~~~BitVec.ofInt k.bits b).toNat)))
    (bool (ieq a b) fun r => .some (.bool r)) (bool (ieq a b) fun r => .some (.bool (bnot r)))
    (bool (ilt a b) fun r => .some (.bool r)) (bool (ile a b) fun r => .some (.bool r)) (bool (ilt b a) fun r => .some (.bool r)) (bool (ile b a) fun r => .some (.bool r)) op
def ishift (op : BinOp) (k : IntKind) (a b : Int) : Option AV :=
  cnd (ilt b (.ofNat 0)) none (match op with
    | .shl => .some (.int k (k.wrap (a * 2 ^ (Nat.min b.toNat k.bits))))
    | .shr => .some (.int k (a.fdiv (2 ^ (Nat.min b.toNat k.bits))))
    | _ => none)
def isSh (op : BinOp) : Bool := BinOp.rec (motive := fun _ => Bool) false false false false false false false false true true false false false false false false false op
def xMv (x : Opd) (_ : Hp) (L : Lo) : Option AV := (getO x L).some
def xPick (c a b : Opd) (_ : Hp) (L : Lo) : Option AV := asBool (getO c L) none fun t => cnd t (getO a L).some (getO b L).some
def xLoad1 (x : Opd) (h : Hp) (L : Lo) : Option AV := asPtr (getO x L) none fun f g o => getCell h f g o
def xLoadN (n : Nat) (x : Opd) (h : Hp) (L : Lo) : Option AV := asPtr (getO x L) none fun f g o => opt (getCells h f g o n) none fun l => .some (.agg l)
def xIbin (op : BinOp) (x y : Opd) (_ : Hp) (L : Lo) : Option AV :=
  asInt (getO x L) (asStr (getO x L) (ibinR op (getO x L) (getO y L)) fun s => asStr (getO y L) none fun t => strOp op s t)
    fun k a => asInt (getO y L) (ibinR op (getO x L) (getO y L)) fun l b => cnd (isSh op) (ishift op k a b) (cnd (keq k l) (iarith op k a b) none)
def exA {R : Type} (a : AV) (e : R) (k : Key → Int → R) : R :=
  match a with
  | .int .i64 n => k kZ n
  | .sx .i64 f c lo hi => cnd (fitK .i64 lo hi) (cnd (Key.beq f kZ) e (k f c)) e
  | _ => e
def findMul (a : Key) (m : Int) : List Rl → Option AV
  | [] => none
  | .mk _ _ _ _ :: l => findMul a m l
  | .ne _ _ :: l => findMul a m l
  | .zero _ :: l => findMul a m l
  | .mul k n q lo hi :: l => cnd (cnd (Key.beq k a) (ieq n m) false) (cnd (fitK .i64 lo hi) (some (.sx .i64 q 0 lo hi)) none) (findMul a m l)
def cmpX (op : BinOp) (a : Key) (b : Int) (a' : Key) (b' : Int) : Option AV :=
  match op with
  | .lss => cnd (leX a (iadd b 1) a' b') (.some (.bool true)) (cnd (leX a' b' a b) (.some (.bool false)) none)
  | .leq => cnd (leX a b a' b') (.some (.bool true)) (cnd (leX a' (iadd b' 1) a b) (.some (.bool false)) none)
  | .gtr => cnd (leX a' (iadd b' 1) a b) (.some (.bool true)) (cnd (leX a b a' b') (.some (.bool false)) none)
  | .geq => cnd (leX a' b' a b) (.some (.bool true)) (cnd (leX a (iadd b 1) a' b') (.some (.bool false)) none)
  | .eql => cnd (cnd (leX a b a' b') (leX a' b' a b) false) (.some (.bool true)) (cnd (cnd (leX a (iadd b 1) a' b') true (leX a' (iadd b' 1) a b)) (.some (.bool false)) none)
  | .neq => cnd (cnd (leX a b a' b') (leX a' b' a b) false) (.some (.bool false)) (cnd (cnd (leX a (iadd b 1) a' b') true (leX a' (iadd b' 1) a b)) (.some (.bool true)) none)
  | _ => none
def isEq (op : BinOp) : Bool := match op with
  | .eql => true
  | .neq => true
  | _ => false
def i64ish : AV → Bool
  | .int .i64 n => fitK .i64 n n
  | .rng .i64 _ _ => true
  | .sx .i64 _ _ _ _ => true
  | _ => false
def addAny (op : BinOp) (x y : AV) : Option AV :=
  match op with
  | .add => cnd (i64ish x) (cnd (i64ish y) (.some (.rng .i64 (-9223372036854775808) 9223372036854775807)) none) none
  | _ => none
def eqX (op : BinOp) (x y : AV) : Option AV :=
  match x, y with
  | .sx k f c lo hi, .sx l f' c' lo' hi' => cnd (keq k l) (cnd (isEq op) (match op, cnd (Key.beq f f') (cnd (ieq c c') (.some true) none) (cnd (sxNe k f c lo hi f' c' lo' hi') (.some false) none) with
    | .eql, .some b => bool b fun b => .some (.bool b)
    | .neq, .some b => bool b fun b => .some (.bool (bnot b))
    | _, _ => none) none) none
  | _, _ => none
def ibinX0 (h : Hp) (op : BinOp) (x y : AV) : Option AV :=
  match x, y with
  | .sx .i64 f c lo hi, .sx .i64 f' c' lo' hi' => exA (.sx .i64 f c lo hi) none fun a b => exA (.sx .i64 f' c' lo' hi') none fun a' b' => cmpX op a b a' b'
  | .stq a, .stq b => cnd (Key.beq a b) (match op with
      | .eql => .some (.bool true)
      | .neq => .some (.bool false)
      | _ => none) none
  | x, y => ibinS h op x y
def ibinX (h : Hp) (op : BinOp) (x y : AV) : Option AV := opt (ibinX0 h op x y) (opt (eqX op x y) (addAny op x y) some) some
def mulX (op : BinOp) (x y : AV) : Option AV :=
  match op, x, y with
  | .mul, .int .i64 n, .sx .i64 f c lo hi => cnd (cnd (fitK .i64 lo hi) (ieq c 0) false) (findMul f n Fk.rel) none
  | _, _, _ => none
def xIbinM (op : BinOp) (x y : Opd) (h : Hp) (L : Lo) : Option AV := opt (xIbin op x y h L) (opt (mulX op (getO x L) (getO y L)) (opt (eqX op (getO x L) (getO y L)) (addAny op (getO x L) (getO y L)) AV.some) AV.some) AV.some
def xIbinH (op : BinOp) (x y : Opd) (h : Hp) (L : Lo) : Option AV := opt (xIbin op x y h L) (ibinX h op (getO x L) (getO y L)) AV.some
def isNilI : AV → Bool | .nilIface => true | _ => false
def xEqv (E : Env) (neg : Bool) (ty : Ty) (sure : Bool) (x y : Opd) (_ : Hp) (L : Lo) : Option AV :=
  cnd (cnd sure false (cnd (isNilI (getO x L)) (isNilI (getO y L)) false)) none
    (opt (aeq E 12 ty (getO x L) (getO y L)) none fun r => bool r fun r => .some (.bool (cnd neg (bnot r) r)))
def xUn (op : UnOp) (x : Opd) (_ : Hp) (L : Lo) : Option AV :=
  match op, getO x L with
  | .neg, .int k n => .some (mkInt k (Int.sub 0 n))
  | .xor, .int k n => .some (.int k (k.wrap (BitVec.ofInt k.bits (if k.signed then -1 else k.max) ^^^ BitVec.ofInt k.bits n).toNat))
  | .not, .bool b => .some (.bool (bnot b))
  | .not, .ub => .some .ub
  | .not, .le f t n => .some (.le f t (bnot n))
  | .not, .eqv f t n => .some (.eqv f t (bnot n))
  | _, _ => none
def convR (k : IntKind) : AV → Option AV
  | .sx k0 f c lo hi => cnd (sxK k) (cnd (fitK k0 lo hi) (.some (.sx k f c lo hi)) (cnd (cnd (keq k0 .i64) (keq k .u8) false) (.some (.sx k f c lo hi)) none)) none
  | .md k0 m r => cnd (Nat.ble (kmax k0) (kmax k)) (.some (.md k m r)) none
  | .rng _ lo hi => cnd (keq k .i64) (cnd (ile (-9223372036854775808) lo) (cnd (ile hi 9223372036854775807) (.some (.rng .i64 lo hi)) none) none) none
  | _ => none
def xConvI (k : IntKind) (x : Opd) (_ : Hp) (L : Lo) : Option AV := asInt (getO x L) (convR k (getO x L)) fun _ n => .some (mkInt k n)
def xConvS (x : Opd) (_ : Hp) (L : Lo) : Option AV :=
  match getO x L with
  | .str s => .some (.str s)
  | .int _ n => .some (.str ((Utf8.encode n).data.toList.map UInt8.toNat))
  | _ => none
def allBytes : List AV → Option (List Nat)
  | [] => .some []
  | .int .u8 (.ofNat n) :: l => cnd (Nat.blt n 256) (match allBytes l with
    | .some m => .some (n :: m)
    | none => none) none
  | _ => none
def allU8 : List AV → Bool
  | [] => true
  | .int .u8 (.ofNat n) :: l => cnd (Nat.blt n 256) (allU8 l) false
  | .sx .u8 _ _ _ _ :: l => allU8 l
  | _ => false
def xB2s (x : Opd) (h : Hp) (L : Lo) : Option AV :=
  match getO x L with
  | .slice0 => .some (.str [])
  | .slice f g o len _ 1 _ => match getCells h f g o len with
    | .some l => match allBytes l with
      | .some s => .some (.str s)
      | none => cnd (allU8 l) (.some (.stx l)) none
    | none => none
  | _ => none
def xIface (t : TypeId) (x : Opd) (_ : Hp) (L : Lo) : Option AV := .some (.iface t (getO x L))
def xFunc (fn : Fn) (first cap : List Opd) (_ : Hp) (L : Lo) : Option AV := .some (.func (.fn fn) (getOs first L) (getOs cap L))
def bnd {R : Type} (x : Option Opd) (L : Lo) (dflt : Nat) (e : R) (k : Nat → R) : R :=
  opt x (k dflt) fun o => asInt (getO o L) e fun _ n => icase n k (fun _ => e)
def xSliceStr (x : Opd) (lo hi : Option Opd) (_ : Hp) (L : Lo) : Option AV :=
  asStr (getO x L) none fun s => bnd lo L 0 none fun l => bnd hi L s.length none fun h =>
    cnd (Nat.ble h s.length) (cnd (Nat.ble l h) (.some (.str ((s.take h).drop l))) none) none
def cutSl (f : Key) (g o len cap sz : Nat) (ex : Bool) (l h m : Nat) (full : Bool) : Option AV :=
  cnd (Nat.ble l h) (cnd (Nat.ble h m) (cnd (Nat.ble m cap)
    (cnd full (.some (.slice f g (Nat.add o (Nat.mul l sz)) (Nat.sub h l) (Nat.sub m l) sz true))
      (.some (.slice f g (Nat.add o (Nat.mul l sz)) (Nat.sub h l) (Nat.sub cap l) sz ex))) none) none) none
def xSliceSl (n : Nat) (x : Opd) (lo hi mx : Option Opd) (_ : Hp) (L : Lo) : Option AV :=
  asSlice (getO x L) (match getO x L with
      | .slice0 => bnd lo L 0 none fun l => bnd hi L 0 none fun h => bnd mx L 0 none fun m => cnd (Nat.beq (l + h + m) 0) (.some .slice0) none
      | _ => none)
    fun f g o len cap sz ex => cnd (Nat.beq n sz) (bnd lo L 0 none fun l => bnd hi L len none fun h => bnd mx L cap none fun m => cutSl f g o len cap sz ex l h m mx.isSome) none
def arrThere (h : Hp) (f : Key) (g o n sz : Nat) : Bool :=
  cnd (Nat.beq n 0) true (cnd (Nat.beq sz 0) false (opt (getCell h f g (Nat.sub (Nat.add o (Nat.mul n sz)) 1)) false fun _ => true))
def xSliceArr (n sz : Nat) (x : Opd) (lo hi mx : Option Opd) (h : Hp) (L : Lo) : Option AV :=
  asPtr (getO x L) none fun f g o => cnd (arrThere h f g o n sz) (bnd lo L 0 none fun l => bnd hi L n none fun hh => bnd mx L n none fun m => cutSl f g o n n sz true l hh m mx.isSome) none
def xAddOff (n : Nat) (x : Opd) (_ : Hp) (L : Lo) : Option AV := asPtr (getO x L) none fun f g o => .some (.ptr f g (Nat.add o n))
def idx {R : Type} (ix : Opd) (L : Lo) (e : R) (k : Nat → R) : R := asInt (getO ix L) e fun _ i => icase i k (fun _ => e)
def xIdxSl (n : Nat) (x ix : Opd) (_ : Hp) (L : Lo) : Option AV :=
  asSlice (getO x L) none fun f g o len cap sz ex => idx ix L none fun i => cnd (cnd (Nat.beq n sz) (Nat.blt i len) false) (natF (Nat.add o (Nat.mul i sz)) fun a => .some (.ptr f g a)) none
def xIdxArr (n sz : Nat) (x ix : Opd) (_ : Hp) (L : Lo) : Option AV :=
  asPtr (getO x L) none fun f g o => idx ix L none fun i => cnd (Nat.blt i n) (natF (Nat.add o (Nat.mul i sz)) fun a => .some (.ptr f g a)) none
def xIdxStr (x ix : Opd) (_ : Hp) (L : Lo) : Option AV :=
  asStr (getO x L) none fun s => idx ix L none fun i => nthN none (fun b => .some (.int .u8 (.ofNat b))) s i
def xIdxAgg (n sz : Nat) (agg : Bool) (x ix : Opd) (_ : Hp) (L : Lo) : Option AV :=
  asAgg (getO x L) none fun cs => idx ix L none fun i => cnd (Nat.blt i n) (cutA agg sz cs (Nat.mul i sz)) none
def xField (off n : Nat) (agg : Bool) (x : Opd) (_ : Hp) (L : Lo) : Option AV := asAgg (getO x L) none fun cs => cutA agg n cs off
/-! maps -/
def findK0 (E : Env) (kt : Ty) (k : AV) : List En → Nat → Option (Option (Nat × En))
  | [], _ => .some none
  | e :: es, i => match aeq E 12 kt k e.k with
    | .some true => .some (.some (i, e))
    | .some false => findK0 E kt k es (Nat.succ i)
    | none => none
def okKey (E : Env) (kt : Ty) (k : AV) : Bool := opt (aeq E 12 kt k k) false fun b => b
def findK (E : Env) (kt : Ty) (k : AV) (es : List En) : Option (Option (Nat × En)) := cnd (okKey E kt k) (findK0 E kt k es 0) none
def keyTy : Ty → Bool
  | .bool | .int | .str | .ptr | .fnil => true
  | .arr _ _ _ t => keyTy t
  | .fcons _ _ _ t r => keyTy t && keyTy r
  | _ => false
def mapEs (h : Hp) (m : AV) : Option (List En) :=
  match m with
  | .map0 => .some []
  | .map f => asMapO (hget f h) none fun es _ => .some es
  | _ => none
def findU0 (E : Env) (kt : Ty) (k : AV) : List En → Option (Option En)
  | [] => .some none
  | e :: es => match aeq E 12 kt k e.k, findU0 E kt k es with
    | .some true, .some none => .some (.some e)
    | .some false, .some r => .some r
    | _, _ => none
def findU (E : Env) (kt : Ty) (k : AV) (es : List En) : Option (Option En) := cnd (okKey E kt k) (findU0 E kt k es) none
def mapUs (h : Hp) (m : AV) : Option (List En) :=
  match m with
  | .map f => asMapU (hget f h) none fun es => .some es
  | _ => none
def lookV (E : Env) (kt : Ty) (k : AV) (h : Hp) (m : AV) : Option (Option AV) :=
  opt (mapEs h m) (opt (mapUs h m) none fun es => opt (findU E kt k es) none fun r => .some (opt r none fun e => .some e.v))
    fun es => opt (findK E kt k es) none fun r => .some (opt r none fun e => .some e.2.v)
def xLookup (E : Env) (kt : Ty) (z : AV) (ok : Bool) (x k : Opd) (h : Hp) (L : Lo) : Option AV :=
  opt (lookV E kt (getO k L) h (getO x L)) none fun r =>
    opt r (.some (cnd ok (.tuple [z, .bool false]) z)) fun v => .some (cnd ok (.tuple [v, .bool true]) v)
def xLenStr (x : Opd) (_ : Hp) (L : Lo) : Option AV := asStr (getO x L) none fun s => natF s.length fun n => .some (.int .i64 (.ofNat n))
def xLenSl (x : Opd) (_ : Hp) (L : Lo) : Option AV :=
  asSlice (getO x L) (match getO x L with | .slice0 => .some (.int .i64 (.ofNat 0)) | .sl lo hi => .some (.rng .i64 (.ofNat lo) (.ofNat hi)) | .nv _ true => .some (.rng .i64 0 9223372036854775807) | _ => none) fun _ _ _ n _ _ _ => .some (.int .i64 (.ofNat n))
def xLenC (n : Nat) (_ : Hp) (_ : Lo) : Option AV := .some (.int .i64 (.ofNat n))
def xLenMap (x : Opd) (h : Hp) (L : Lo) : Option AV := opt (mapEs h (getO x L)) none fun es => .some (.int .i64 (.ofNat es.length))
def xCapSl (x : Opd) (_ : Hp) (L : Lo) : Option AV := asSlice (getO x L) none fun _ _ _ _ c _ ex => cnd ex (.some (.int .i64 (.ofNat c))) none
def missing (want : List (String × TypeId)) (got : List Method) : Bool :=
  !(want.all fun w => got.any fun m => m.name == w.1 && m.sig == w.2)
def xAssertC (t : TypeId) (z : AV) (ok : Bool) (x : Opd) (_ : Hp) (L : Lo) : Option AV :=
  match getO x L with
  | .nilIface => cnd ok (.some (.tuple [z, .bool false])) none
  | .iface u v => cnd (Nat.beq u t) (.some (cnd ok (.tuple [v, .bool true]) v)) (cnd ok (.some (.tuple [z, .bool false])) none)
  | _ => none
def xAssertI (E : Env) (want : List (String × TypeId)) (z : AV) (ok : Bool) (x : Opd) (_ : Hp) (L : Lo) : Option AV :=
  match getO x L with
  | .nilIface => cnd ok (.some (.tuple [z, .bool false])) none
  | .iface u v => match E.ts.get u with
    | .some i => cnd (missing want i.methods.toList) (cnd ok (.some (.tuple [z, .bool false])) none) (.some (cnd ok (.tuple [.iface u v, .bool true]) (.iface u v)))
    | none => none
  | _ => none
def xExtract (i : Nat) (x : Opd) (_ : Hp) (L : Lo) : Option AV := asTuple (getO x L) none fun vs => nthA vs i
def putAt (cs : List AV) (off : Nat) (l : List AV) : List AV := cs.take off ++ l ++ cs.drop (off + l.length)
def fillF (L : Lo) (cells : List AV) : List (Nat × Nat × Opd) → Option (List AV)
  | [] => .some cells
  | (off, size, o) :: rest =>
    cellsK (getO o L) none fun l =>
    cnd (Nat.beq l.length size) (cnd (Nat.ble (Nat.add off size) cells.length) (fillF L (putAt cells off l) rest) none) none
def xBuild (z : List AV) (ps : List (Nat × Nat × Opd)) (_ : Hp) (L : Lo) : Option AV := opt (fillF L z ps) none fun l => .some (.agg l)
def xNilck (x : Opd) (_ : Hp) (L : Lo) : Option AV :=
  asPtr (getO x L) (match getO x L with
    | .func (.fn (.method _)) _ _ => none
    | .func fn a b => .some (.func fn a b)
    | .iface t v => .some (.iface t v)
    | _ => none) fun f g o => .some (.ptr f g o)
def minA (mx : Bool) (k : IntKind) : Int → List AV → Option AV
  | n, [] => .some (.int k n)
  | n, .int l m :: r => cnd (keq k l) (minA mx k (cnd (cnd mx (ilt n m) (ilt m n)) m n) r) none
  | _, _ => none
def xMinmax (mx : Bool) (x : Opd) (xs : List Opd) (_ : Hp) (L : Lo) : Option AV := asInt (getO x L) none fun k n => minA mx k n (getOs xs L)
def findB (b : Nat) : List En → Option En
  | [] => none
  | e :: es => cnd (Nat.beq e.b b) (.some e) (findB b es)
def lastN : List Nat → Option Nat
  | [] => none
  | [a] => .some a
  | _ :: l => lastN l
def xEntry (x : Opd) (h : Hp) (L : Lo) : Option AV :=
  asPtr (getO x L) none fun f _ o => cnd (Nat.beq o 0) (match hget f h with
    | .mapIter (.some m) _ seen stepped => asMapO (hget m h) none fun es clock => cnd (Nat.beq clock stepped)
        (opt (lastN seen) none fun b => opt (findB b es) none fun e => .some (.tuple [e.k, e.v])) none
    | _ => none) none
def xWaits (g : Key) (h : Hp) (_ : Lo) : Option AV := asCells (hget g h) none fun _ _ _ _ _ _ => .some (.bool false)
/-! named slices -/
def at0 (k : Key) (c : Int) : Bool := cnd (Key.beq k kZ) (ieq c 0) false
def lenN (k : Key) (c : Int) (q : Key) (d : Int) : Option AV :=
  opt (disX k c q d) (cnd (cnd (at0 k c) (bnot (Key.beq q kZ)) false) (opt (relOf kZ q) none fun p => cnd (fitK .i64 (iadd p.1 d) (iadd p.2 d)) (.some (.sx .i64 q d (iadd p.1 d) (iadd p.2 d))) none) none)
    fun n => .some (.int .i64 n)
def xLenSlX (x : Opd) (h : Hp) (L : Lo) : Option AV := asNsl (getO x L) (xLenSl x h L) fun _ _ _ k c q d _ => lenN k c q d
def idxN (n : Nat) (f : Key) (g sz : Nat) (k : Key) (c : Int) (q : Key) (d : Int) (a : Key) (b : Int) : Option AV :=
  cnd (Nat.beq n sz) (cnd (at0 k c)
      (cnd (leX kZ 0 a b) (cnd (leX a (iadd b 1) q d) (.some (.nix f g sz a b 0)) none) none)
      (cnd (Key.beq a kZ) (cnd (ile 0 b) (cnd (leX k (iadd (iadd c b) 1) q d) (.some (.nix f g sz k (iadd c b) 0)) none) none) none)) none
def xIdxSlX (n : Nat) (x ix : Opd) (h : Hp) (L : Lo) : Option AV :=
  asNsl (getO x L) (xIdxSl n x ix h L) fun f g sz k c q d _ => exA (getO ix L) none fun a b => idxN n f g sz k c q d a b
def xAddOffX (n : Nat) (x : Opd) (h : Hp) (L : Lo) : Option AV := asNix (getO x L) (xAddOff n x h L) fun f g sz k c o => .some (.nix f g sz k c (Nat.add o n))
def xNilckX (x : Opd) (h : Hp) (L : Lo) : Option AV := asNix (getO x L) (xNilck x h L) fun f g sz k c o => .some (.nix f g sz k c o)
def xLoad1X (x : Opd) (h : Hp) (L : Lo) : Option AV := asNix (getO x L) (xLoad1 x h L) fun f g sz k c o => opt (rowN h f g sz k c) none fun l => nthA l o
def xLoadNX (n : Nat) (x : Opd) (h : Hp) (L : Lo) : Option AV := asNix (getO x L) (xLoadN n x h L) fun f g sz k c o =>
  opt (rowN h f g sz k c) none fun l => cnd (Nat.ble (Nat.add o n) l.length) (.some (.agg ((l.drop o).take n))) none
def bndN {R : Type} (x : Option Opd) (L : Lo) (a : Key) (b : Int) (e : R) (k : Key → Int → R) : R := opt x (k a b) fun o => exA (getO o L) e k
def xSliceSlX (n : Nat) (x : Opd) (lo hi mx : Option Opd) (h : Hp) (L : Lo) : Option AV :=
  asNsl (getO x L) (xSliceSl n x lo hi mx h L) fun f g sz k c q d m => cnd (Nat.beq n sz) (cnd (at0 k c) (opt mx
    (bndN lo L kZ 0 none fun a b => bndN hi L q d none fun a' b' =>
      cnd (leX kZ 0 a b) (cnd (leX a b a' b') (cnd (leX a' b' q m) (.some (.nsl f g sz a b a' b' (cnd (Key.beq a' q) m b'))) none) none) none)
    fun _ => none) none) none
def isU (q : Key) : Bool := List.rec (motive := fun _ => Bool) false (fun a _ ih => cnd (Key.beq q a) true ih) Fk.us
def b2sN0 (h : Hp) (f : Key) (g sz : Nat) (k : Key) (c : Int) (q : Key) (d : Int) : Option AV :=
  cnd (at0 k c) (cnd (ieq d 0) (cnd (isU q) (asLst (hget f h) none fun _ _ z q' _ => cnd (Nat.beq z 1) (cnd (Nat.beq sz 1) (cnd (Key.beq q q') (.some (.stq q)) none) none) none) none) none) none
def isEmptyN (k : Key) (c : Int) (q : Key) (d : Int) : Bool := opt (disX k c q d) false fun n => ieq n 0
def b2sN (h : Hp) (f : Key) (g sz : Nat) (k : Key) (c : Int) (q : Key) (d : Int) : Option AV := cnd (isEmptyN k c q d) (.some (.str [])) (b2sN0 h f g sz k c q d)
def xB2sX (x : Opd) (h : Hp) (L : Lo) : Option AV := asNsl (getO x L) (xB2s x h L) fun f g sz k c q d _ => b2sN h f g sz k c q d
def isSx (a : AV) : Bool :=
  match a with
  | .sx _ _ _ _ _ => true
  | _ => false
def xMinmaxX (mx : Bool) (x : Opd) (xs : List Opd) (h : Hp) (L : Lo) : Option AV :=
  match xs with
  | [y] => cnd (cnd (isSx (getO x L)) true (isSx (getO y L))) (exA (getO x L) none fun a b => exA (getO y L) none fun a' b' =>
      cnd (leX a b a' b') (cnd mx (getO y L) (getO x L)).some (cnd (leX a' b' a b) (cnd mx (getO x L) (getO y L)).some none)) (xMinmax mx x [y] h L)
  | xs => xMinmax mx x xs h L
def PI.ev (E : Env) (p : PI) : Hp → Lo → Option AV :=
  PI.rec (motive := fun _ => Hp → Lo → Option AV) xMv xPick xLoad1X xLoadNX xIbinM (xEqv E) xUn xConvI xConvS xB2sX xIface xFunc xSliceStr xSliceSlX xSliceArr xAddOffX xIdxSlX xIdxArr
    xIdxStr xIdxAgg xField (xLookup E) xLenStr xLenSlX xLenC xLenMap xCapSl xAssertC (xAssertI E) xExtract xBuild xNilckX xMinmaxX xEntry xWaits (fun _ _ => none) p
/-! ## instructions that make one new object -/
inductive AI where
  | alloc (o : Ob)
  | box (sz n : Nat) (x : Opd)
  | bslice (g sz len : Nat) (z : List AV) (ps : List (Nat × Nat × Opd))
  | mkMap
  | mkMapN (x : Opd)
  | mkSlice (sz : Nat) (z : List AV) (l c : Opd)
  | mkSliceN (sz : Nat) (z : List AV) (l c : Opd)
  | s2b (x : Opd)
  | rangeS (x : Opd)
  | rangeM (x : Opd)
  | bad
def depthFor (n : Nat) : Nat → Nat → Nat
  | 0, d => d
  | fuel + 1, d => cnd (Nat.ble n (Nat.pow 2 d)) d (depthFor n fuel (d + 1))
def chunks (sz : Nat) : Nat → List AV → List Row
  | 0, _ => []
  | n + 1, l => .mk (l.take sz) 0 :: chunks sz n (l.drop sz)
def rowOf (cs : List AV) : Ob := .cells false 0 cs.length 0 1 (.lf (.mk cs 0))
def rowsOf (sz n : Nat) (cs : List AV) : Ob := .cells false 0 sz (depthFor n 25 0) n (Tr.ofList (depthFor n 25 0) (chunks sz n cs))
def rowsOfG (g sz n : Nat) (cs : List AV) : Ob := .cells false g sz (depthFor n 25 0) n (Tr.ofList (depthFor n 25 0) (chunks sz n cs))
def repL (l : List AV) : Nat → List AV
  | 0 => []
  | n + 1 => l ++ repL l n
def byteCells : List Nat → List AV
  | [] => []
  | b :: l => .int .u8 (.ofNat b) :: byteCells l
def bytesOb (s : List Nat) : Ob := .cells false strGen 1 (depthFor s.length 25 0) s.length (Tr.ofList (depthFor s.length 25 0) (chunks 1 s.length (byteCells s)))
def allScalar : List AV → Bool
  | [] => true
  | a :: l => cnd a.scalar (allScalar l) false
def boxOb (sz n : Nat) (l : List AV) : Ob := cnd (Nat.beq sz 0) (rowOf l) (cnd (Nat.beq l.length (Nat.mul n sz)) (rowsOf sz n l) (rowOf l))
def isZl (q : Key) : List Rl → Bool
  | [] => false
  | .zero k :: l => cnd (Key.beq k q) true (isZl q l)
  | .mk _ _ _ _ :: l => isZl q l
  | .mul _ _ _ _ _ :: l => isZl q l
  | .ne _ _ :: l => isZl q l
def mkNam (nx : Key) (sz : Nat) (z : List AV) (l c : AV) : Option (Ob × AV) :=
  match l, c, z with
  | .sx .i64 q 0 lo hi, .sx .i64 q' 0 _ _, [.int .i64 0] => cnd (Nat.beq sz 1) (cnd (Key.beq q q') (cnd (Key.beq q kZ) none (cnd (ile 0 lo) (cnd (ile hi 100000) (cnd (isZl q Fk.rel) (.some (.lst false 0 1 q [], .nsl nx 0 1 kZ 0 q 0 0)) none) none) none)) none) none
  | _, _, _ => none
def AI.ev (p : AI) (h : Hp) (nx : Key) (L : Lo) : Option (Ob × AV) :=
  match p with
  | .alloc o => .some (o, .ptr nx 0 0)
  | .box sz n x => cellsK (getO x L) none fun l => .some (boxOb sz n l, .ptr nx 0 0)
  | .bslice g sz len z ps => match fillF L (repL z len) ps with
    | .some l => .some (rowsOfG g sz len l, .slice nx g 0 len len sz true)
    | none => none
  | .mkMap => .some (.map [] 0, .map nx)
  | .mkMapN x => asInt (getO x L) none fun _ _ => .some (.map [] 0, .map nx)
  | .mkSlice sz z l c => idx l L none fun l => idx c L none fun c => cnd (Nat.ble l c) (cnd (Nat.ble c 100000) (.some (rowsOf sz c (repL z c), .slice nx 0 0 l c sz true)) none) none
  | .mkSliceN sz z l c => opt (idx l L none fun l => idx c L none fun c => cnd (Nat.ble l c) (cnd (Nat.ble c 100000) (.some (rowsOf sz c (repL z c), .slice nx 0 0 l c sz true)) none) none) (mkNam nx sz z (getO l L) (getO c L)) .some
  | .s2b x => asStr (getO x L) none fun s => .some (bytesOb s, .slice nx strGen 0 s.length s.length 1 false)
  | .rangeS x => asStr (getO x L) none fun s => .some (.strIter s 0, .ptr nx 0 0)
  | .rangeM x => match getO x L with
    | .map0 => .some (.mapIter none 0 [] 0, .ptr nx 0 0)
    | .map f => asMapO (hget f h) none fun _ clock => .some (.mapIter (.some f) clock [] clock, .ptr nx 0 0)
    | _ => none
  | .bad => none
/-! ## the same abstract value -/
mutual
def aveq : AV → AV → Bool
  | .any, .any => true
  | .bool a, .bool b => cnd a b (bnot b)
  | .int k a, .int l b => cnd (keq k l) (ieq a b) false
  | .str a, .str b => leq a b
  | .ptr0, .ptr0 => true
  | .ptr f g o, .ptr f' g' o' => cnd (Key.beq f f') (cnd (Nat.beq g g') (Nat.beq o o') false) false
  | .slice0, .slice0 => true
  | .slice f g o l c s x, .slice f' g' o' l' c' s' x' =>
    cnd (Key.beq f f') (cnd (Nat.beq g g') (cnd (Nat.beq o o') (cnd (Nat.beq l l') (cnd (Nat.beq c c') (cnd (Nat.beq s s') (cnd x x' (bnot x')) false) false) false) false) false) false
  | .map0, .map0 => true
  | .map a, .map b => Key.beq a b
  | .nilFunc, .nilFunc => true
  | .func (.fn (.func f)) a b, .func (.fn (.func f')) a' b' => cnd (Nat.beq f f') (cnd (aveqs a a') (aveqs b b') false) false
  | .iface t v, .iface u w => cnd (Nat.beq t u) (aveq v w) false
  | .nilIface, .nilIface => true
  | .agg a, .agg b => aveqs a b
  | .tuple a, .tuple b => aveqs a b
  | .sx k f c lo hi, .sx l f' c' lo' hi' => cnd (keq k l) (cnd (Key.beq f f') (cnd (ieq c c') (cnd (ieq lo lo') (ieq hi hi') false) false) false) false
  | .stx a, .stx b => aveqs a b
  | .nsl f g s k c q d m, .nsl f' g' s' k' c' q' d' m' => cnd (Key.beq f f') (cnd (Nat.beq g g') (cnd (Nat.beq s s') (cnd (Key.beq k k') (cnd (ieq c c') (cnd (Key.beq q q') (cnd (ieq d d') (ieq m m') false) false) false) false) false) false) false
  | .nix f g s k c o, .nix f' g' s' k' c' o' => cnd (Key.beq f f') (cnd (Nat.beq g g') (cnd (Nat.beq s s') (cnd (Key.beq k k') (cnd (ieq c c') (Nat.beq o o') false) false) false) false) false
  | .stq q, .stq q' => Key.beq q q'
  | .nv q s, .nv q' s' => cnd (Key.beq q q') (cnd s s' (bnot s')) false
  | .md k m r, .md l m' r' => cnd (keq k l) (cnd (Nat.beq m m') (Nat.beq r r') false) false
  | .rng k lo hi, .rng l lo' hi' => cnd (keq k l) (cnd (ieq lo lo') (ieq hi hi') false) false
  | _, _ => false
def aveqs : List AV → List AV → Bool
  | [], [] => true
  | a :: as, b :: bs => cnd (aveq a b) (aveqs as bs) false
  | _, _ => false
end
def detC : AV → Bool
  | .bool _ => true
  | .int _ _ => true
  | .str _ => true
  | .ptr0 => true
  | .ptr _ _ _ => true
  | _ => false
def allDet : List AV → Bool
  | [] => true
  | a :: l => cnd (detC a) (allDet l) false
def keyBits (x y : AV) : Bool := cnd (aveq x y) (cnd (detC x) true (asAgg x false allDet)) false
/-! ## instructions that turn memory -/
inductive EI where
  | asg (x : Opd)
  | store (n : Nat) (x y : Opd)
  | append (sz : Nat) (x y : Opd)
  | copy (sz : Nat) (x y : Opd)
  | mapUp (kt : Ty) (m k v : Opd)
  | mapEn (kt : Ty) (z : AV) (m k : Opd)
  | enStore (m s v : Opd)
  | del (kt : Ty) (m k : Opd)
  | clearM (m : Opd)
  | clearS (z : List AV) (x : Opd)
  | clone (x : Opd)
  | mark (x : Opd)
  | bad
abbrev undefA : AV := .tuple []
inductive Tn where
  | mk (v : AV) (h : Hp) (nx : Key)
def overRows (dp gw : Nat) : Tr Row → Nat → List (List AV) → Option (Tr Row)
  | c, _, [] => .some c
  | c, r, l :: ls => match c.get r with
    | .some (.mk _ g0) => cnd (Nat.ble g0 gw) (overRows dp gw (c.set dp r (.mk l gw)) (Nat.succ r) ls) none
    | none => none
def cutR (sz : Nat) : Nat → List AV → List (List AV)
  | 0, _ => []
  | n + 1, l => l.take sz :: cutR sz n (l.drop sz)
def storeC (h : Hp) (f : Key) (g o n : Nat) (l : List AV) : Option Hp :=
  asCells (hget f h) none fun ro gen sz dp ext c => cnd ro none <| cnd (Nat.beq g gen)
    (cnd (Nat.ble (Nat.add (Nat.mod o sz) n) sz)
      (opt (c.get (Nat.div o sz)) none fun r => Row.rec (motive := fun _ => Option Hp) (fun old gw => cnd (Nat.ble gw g)
        (.some (hset f (.cells ro gen sz dp ext (c.set dp (Nat.div o sz) (.mk (cnd (Nat.beq n sz) l (putAt old (Nat.mod o sz) l)) g))) h)) none) r)
      (cnd (Nat.beq (Nat.mod o sz) 0) (cnd (Nat.beq (Nat.mod n sz) 0) (opt (overRows dp g c (Nat.div o sz) (cutR sz (Nat.div n sz) l)) none fun c' =>
        .some (hset f (.cells ro gen sz dp ext c') h)) none) none)) none
def store1 (h : Hp) (f : Key) (g o : Nat) (v : AV) : Option Hp :=
  asCells (hget f h) none fun ro gen sz dp ext c => cnd ro none <| cnd (Nat.beq sz 0) none <| cnd (Nat.beq g gen)
    (opt (c.get (Nat.div o sz)) none fun r => Row.rec (motive := fun _ => Option Hp) (fun old gw => cnd (Nat.ble gw g)
      (.some (hset f (.cells ro gen sz dp ext (c.set dp (Nat.div o sz) (.mk (setNth v old (Nat.mod o sz)) g))) h)) none) r) none
def storeTo (h : Hp) (f : Key) (g o : Nat) (l : List AV) : Option Hp :=
  cnd (Nat.beq l.length 0) (.some h) (cnd (allScalar l) (storeC h f g o l.length l) none)
def xStore (n : Nat) (x y : Opd) (h : Hp) (nx : Key) (L : Lo) : Option Tn :=
  asPtr (getO x L) none fun f g o =>
    asAgg (getO y L)
      (cnd (Nat.beq n 1) (cnd (getO y L).scalar (opt (store1 h f g o (getO y L)) none fun h' => .some (.mk undefA h' nx)) none) none)
      fun l => cnd (Nat.beq l.length n) (opt (storeTo h f g o l) none fun h' => .some (.mk undefA h' nx)) none
def firstRows (h : Hp) (sz n : Nat) (x : AV) : Option (List (List AV)) :=
  match x with
  | .slice f g o _ _ sz' _ => cnd (Nat.beq sz sz') (asCells (hget f h) none fun _ _ z _ _ c =>
      cnd (Nat.beq z sz) (cnd (Nat.beq (Nat.mod o sz) 0) (getRows c g n (Nat.div o sz)) none) none) none
  | .slice0 => .some []
  | .str s => cnd (Nat.beq sz 1) (.some ((byteCells (s.take n)).map fun a => [a])) none
  | _ => none
def lenA : AV → Option Nat
  | .slice _ _ _ n _ _ _ => .some n
  | .slice0 => .some 0
  | .str s => .some s.length
  | _ => none
def lenS : AV → Option Nat
  | .slice _ _ _ n _ _ _ => .some n
  | .slice0 => .some 0
  | _ => none
def rowsGw (gw : Nat) : List (List AV) → List Row
  | [] => []
  | l :: ls => .mk l gw :: rowsGw gw ls
def newRows (sz : Nat) (ls : List (List AV)) : Ob := .cells false 0 sz (depthFor ls.length 25 0) ls.length (Tr.ofList (depthFor ls.length 25 0) (rowsGw 0 ls))
def growTo (n : Nat) : Nat → Nat → Tr Row → (Nat → Tr Row → Option Tn) → Option Tn
  | 0, _, _, _ => none
  | fuel + 1, d, c, k => cnd (Nat.ble n (Nat.pow 2 d)) (k d c) (growTo n fuel (d + 1) c.grow k)
def addRows (dp gw : Nat) : Tr Row → Nat → List (List AV) → Tr Row
  | c, _, [] => c
  | c, r, l :: ls => addRows dp gw (c.set dp r (.mk l gw)) (Nat.succ r) ls
def fresh (h : Hp) (nx : Key) (o : Ob) (v : AV) : Option Tn := cnd (hget nx h).isNone (.some (.mk v (hset nx o h) nx.next)) none
def rowsScalar : List (List AV) → Bool
  | [] => true
  | l :: ls => cnd (allScalar l) (rowsScalar ls) false
def appendSl (sz : Nat) (f : Key) (g o len cap : Nat) (ex : Bool) (new : List (List AV)) (n : Nat) (h : Hp) (nx : Key) : Option Tn :=
  cnd (Nat.ble (Nat.add len n) 1000000) (asCells (hget f h) none fun ro gen z dp ext c =>
    cnd (Nat.beq z sz) (cnd (Nat.beq (Nat.mod o sz) 0)
      (cnd (Nat.ble (Nat.add len n) cap)
        (cnd ro none (cnd (Nat.beq g gen) (cnd (rowsScalar new) (opt (overRows dp g c (Nat.add (Nat.div o sz) len) new) none fun c' =>
          .some (.mk (.slice f g o (Nat.add len n) cap sz ex) (hset f (.cells ro gen z dp ext c') h) nx)) none) none))
        (cnd ex
          (opt (getRows c g len (Nat.div o sz)) none fun old => fresh h nx (newRows sz (old ++ new)) (.slice nx 0 0 (Nat.add len n) (Nat.add len n) sz false))
          (cnd ro none (cnd (Nat.beq g gen) (cnd (Nat.beq ext (Nat.add (Nat.div o sz) len)) (cnd (cnd (Nat.beq (Nat.succ gen) strGen) false (rowsScalar new))
            (opt (getRows c g len (Nat.div o sz)) none fun _ => growTo (Nat.add ext n) 25 dp c fun dp' c' =>
              .some (.mk (.slice f (Nat.succ gen) o (Nat.add len n) (Nat.add len n) sz false) (hset f (.cells ro (Nat.succ gen) z dp' (Nat.add ext n) (addRows dp' (Nat.succ gen) c' ext new)) h) nx))
            none) none) none)))) none) none) none
def appTail (sz : Nat) (x : AV) (n : Nat) (new : List (List AV)) (h : Hp) (nx : Key) : Option Tn :=
    match x with
    | .slice0 => cnd (Nat.beq n 0) (.some (.mk .slice0 h nx)) (cnd (Nat.ble n 1000000) (fresh h nx (newRows sz new) (.slice nx 0 0 n n sz false)) none)
    | .slice f g o len cap sz' ex => cnd (Nat.beq sz sz') (cnd (Nat.beq n 0) (.some (.mk (.slice f g o len cap sz' ex) h nx)) (appendSl sz f g o len cap ex new n h nx)) none
    | _ => none
def xAppend (sz : Nat) (x y : Opd) (h : Hp) (nx : Key) (L : Lo) : Option Tn :=
  opt (lenA (getO y L)) none fun n => opt (firstRows h sz n (getO y L)) none fun new => appTail sz (getO x L) n new h nx
def copyTail (sz : Nat) (x : AV) (k : Nat) (rows : List (List AV)) (h : Hp) (nx : Key) : Option Tn :=
    cnd (Nat.beq k 0) (.some (.mk (.int .i64 (.ofNat 0)) h nx)) (match x with
      | .slice f g o _ _ sz' _ => cnd (Nat.beq sz sz') (asCells (hget f h) none fun ro gen z dp ext c => cnd ro none (cnd (Nat.beq g gen) (cnd (Nat.beq z sz) (cnd (Nat.beq (Nat.mod o sz) 0) (cnd (rowsScalar rows)
          (opt (overRows dp g c (Nat.div o sz) rows) none fun c' => .some (.mk (.int .i64 (.ofNat k)) (hset f (.cells ro gen z dp ext c') h) nx)) none) none) none) none)) none
      | _ => none)
def xCopy (sz : Nat) (x y : Opd) (h : Hp) (nx : Key) (L : Lo) : Option Tn :=
  opt (lenS (getO x L)) none fun m => opt (lenA (getO y L)) none fun n =>
    opt (firstRows h sz (Nat.min n m) (getO y L)) none fun rows => copyTail sz (getO x L) (Nat.min n m) rows h nx
/-! named slices -/
def isNsl (a : AV) : Bool := asNsl a false fun _ _ _ _ _ _ _ _ => true
def rowsY (h : Hp) (sz : Nat) (y : AV) : Option (List (List AV)) :=
  asNsl y (opt (lenA y) none fun n => firstRows h sz n y) fun f g sz' k c q d _ => cnd (Nat.beq sz sz') (opt (disX k c q d) none fun n => icase n (rowsN h f g sz k c) fun _ => none) none
def appNsl (sz : Nat) (f : Key) (g : Nat) (q : Key) (d : Int) (new : List (List AV)) (h : Hp) (nx : Key) : Option Tn :=
  asLst (hget f h) none fun ro gen z q' sfx => cnd ro none (cnd (Nat.beq z sz) (cnd (Key.beq q q') (cnd (Nat.beq g gen) (cnd (ieq d (.ofNat sfx.length)) (cnd (Nat.blt (Nat.succ gen) strGen)
    (opt (relOf kZ q) none fun p => cnd (ile (iadd p.2 (iadd d (.ofNat new.length))) 1000000) (cnd (ile 1 (iadd p.1 d)) (cnd (rowsScalar new)
      (.some (.mk (.nsl f (Nat.succ gen) sz kZ 0 q (iadd d (.ofNat new.length)) (iadd d (.ofNat new.length))) (hset f (.lst false (Nat.succ gen) sz q (sfx ++ new)) h) nx)) none) none) none) none) none) none) none) none)
def appAll (sz : Nat) (f : Key) (q : Key) (h : Hp) (nx : Key) : Option Tn :=
  asLst (hget f h) none fun _ _ z q' _ => cnd (Nat.beq z sz) (cnd (Key.beq q q') (opt (relOf kZ q) none fun p => cnd (ile p.2 1000000) (cnd (ile 1 p.1)
    (fresh h nx (.lst false 0 sz q []) (.nsl nx 0 sz kZ 0 q 0 0)) none) none) none) none
def isEmptyS (sz : Nat) (x : AV) : Bool :=
  match x with
  | .slice0 => true
  | .slice _ _ _ len cap sz' ex => cnd (Nat.beq len 0) (cnd (Nat.beq cap 0) (cnd (Nat.beq sz sz') ex false) false) false
  | _ => false
def appN (sz : Nat) (x y : AV) (h : Hp) (nx : Key) : Option Tn :=
  opt (rowsY h sz y)
    (asNsl y none fun f _ sz' k c q d _ => cnd (isEmptyS sz x) (cnd (Nat.beq sz sz') (cnd (at0 k c) (cnd (ieq d 0) (appAll sz f q h nx) none) none) none) none)
    fun new => asNsl x
      (appTail sz x new.length new h nx)
      fun f g sz' k c q d m => cnd (Nat.beq new.length 0) (.some (.mk (.nsl f g sz' k c q d m) h nx)) (cnd (Nat.beq sz sz') (cnd (at0 k c) (appNsl sz f g q d new h nx) none) none)
def xAppendX (sz : Nat) (x y : Opd) (h : Hp) (nx : Key) (L : Lo) : Option Tn :=
  cnd (cnd (isNsl (getO x L)) true (isNsl (getO y L))) (appN sz (getO x L) (getO y L) h nx) (xAppend sz x y h nx L)
def cntN (m : Nat) (k : Key) (c : Int) (q : Key) (d : Int) : Option Nat :=
  cnd (leX k (iadd c (.ofNat m)) q d) (.some m) (opt (disX k c q d) none fun n => icase n (fun n => cnd (Nat.ble n m) (.some n) none) fun _ => none)
def copyN (sz : Nat) (x : AV) (f : Key) (g : Nat) (k : Key) (c : Int) (q : Key) (d : Int) (h : Hp) (nx : Key) : Option Tn :=
  opt (lenS x) none fun m => opt (cntN m k c q d) none fun n => opt (rowsN h f g sz k c n) none fun rows => copyTail sz x n rows h nx
def xCopyX (sz : Nat) (x y : Opd) (h : Hp) (nx : Key) (L : Lo) : Option Tn :=
  asNsl (getO y L) (xCopy sz x y h nx L) fun f g sz' k c q d _ => cnd (Nat.beq sz sz') (copyN sz (getO x L) f g k c q d h nx) none
def setE (b : Nat) (v : AV) : List En → Option (List En)
  | [] => none
  | .mk x y c :: es => cnd (Nat.beq b c) (.some (.mk x v c :: es)) (match setE b v es with
    | .some l => .some (.mk x y c :: l)
    | none => none)
def xMapUp (E : Env) (kt : Ty) (m k v : Opd) (h : Hp) (nx : Key) (L : Lo) : Option Tn :=
  asMap (getO m L) none fun f => asMapO (hget f h) none fun es clock => opt (findK E kt (getO k L) es) none fun r =>
    opt r (.some (.mk undefA (hset f (.map (es ++ [.mk (getO k L) (getO v L) clock]) (Nat.succ clock)) h) nx))
      fun e => cnd (keyBits (getO k L) e.2.k) (.some (.mk undefA (hset f (.map (es.set e.1 (.mk (getO k L) (getO v L) e.2.b)) clock) h) nx)) none
def xMapEn (E : Env) (kt : Ty) (z : AV) (m k : Opd) (h : Hp) (nx : Key) (L : Lo) : Option Tn :=
  asMap (getO m L) none fun f => asMapO (hget f h) none fun es clock => opt (findK E kt (getO k L) es) none fun r =>
    opt r (.some (.mk (.tuple [z, .int .i64 (.ofNat clock)]) (hset f (.map (es ++ [.mk (getO k L) z clock]) (Nat.succ clock)) h) nx))
      fun e => cnd (keyBits (getO k L) e.2.k) (.some (.mk (.tuple [e.2.v, .int .i64 (.ofNat e.2.b)]) (hset f (.map (es.set e.1 (.mk (getO k L) e.2.v e.2.b)) clock) h) nx)) none
def xEnStore (m s v : Opd) (h : Hp) (nx : Key) (L : Lo) : Option Tn :=
  asMap (getO m L) none fun f => idx s L none fun b => asMapO (hget f h) none fun es clock => opt (setE b (getO v L) es) none fun l => .some (.mk undefA (hset f (.map l clock) h) nx)
def delM (E : Env) (kt : Ty) (m k : AV) (h : Hp) (nx : Key) : Option Tn :=
  match m with
  | .map0 => opt (findK E kt k []) none fun _ => .some (.mk undefA h nx)
  | .map f => asMapO (hget f h) none fun es clock => opt (findK E kt k es) none fun r =>
      opt r (.some (.mk undefA h nx)) fun e => .some (.mk undefA (hset f (.map (es.eraseIdx e.1) clock) h) nx)
  | _ => none
def xDel (E : Env) (kt : Ty) (m k : Opd) (h : Hp) (nx : Key) (L : Lo) : Option Tn := delM E kt (getO m L) (getO k L) h nx
def xClearM (m : Opd) (h : Hp) (nx : Key) (L : Lo) : Option Tn :=
  match getO m L with
  | .map0 => .some (.mk undefA h nx)
  | .map f => asMapO (hget f h) none fun _ clock => .some (.mk undefA (hset f (.map [] clock) h) nx)
  | _ => none
def xClearS (z : List AV) (x : Opd) (h : Hp) (nx : Key) (L : Lo) : Option Tn :=
  match getO x L with
  | .slice0 => .some (.mk undefA h nx)
  | .slice f g o n _ sz _ => cnd (Nat.beq n 0) (.some (.mk undefA h nx)) (cnd (Nat.beq z.length sz) (opt (storeTo h f g o (repL z n)) none fun h' => .some (.mk undefA h' nx)) none)
  | _ => none
def xClone (x : Opd) (h : Hp) (nx : Key) (L : Lo) : Option Tn :=
  asIface (getO x L) none fun t v => asMap v none fun f => asMapO (hget f h) none fun es clock => fresh h nx (.map es clock) (.iface t (.map nx))
def xMark (x : Opd) (h : Hp) (nx : Key) (L : Lo) : Option Tn :=
  asSlice (getO x L) none fun f g o n c sz ex => asCells (hget f h) none fun ro gen _ _ _ _ => cnd ro none (cnd (Nat.ble strGen g) (cnd (Nat.beq g gen) (.some (.mk (.slice f g o n c sz ex) h nx)) none) none)
def EI.ev (E : Env) (p : EI) : Hp → Key → Lo → Option Tn :=
  EI.rec (motive := fun _ => Hp → Key → Lo → Option Tn) (fun x h nx L => opt (getO x L).some none fun v => .some (.mk v h nx)) xStore xAppendX xCopyX (xMapUp E) (xMapEn E) xEnStore (xDel E) xClearM xClearS xClone xMark (fun _ _ _ => none) p
/-! ## control -/
inductive CI where
  | sum
  | callF (f : Nat) (args : List Opd)
  | callV (x : Opd) (args : List Opd)
  | invoke (x : Opd) (name : String) (args : List Opd)
  | deferV (x : Opd) (args : List Opd)
  | deferI (x : Opd) (name : String) (args : List Opd)
  | deferB (b : Builtin) (args : List Opd)
  | deferD (t : TypeId) (m k : Opd)
  | panic (x : Opd)
  | recover
  | next (isString : Bool) (x : Opd)
  | bad
inductive Ck where
  | p (a b c : D) (p : PI)
  | a (a b c : D) (p : AI)
  | g (a b c : D) (want : Bool) (k : Ck)
inductive IE where
  | mk (kt : Ty) (m k v : Opd)
def IE.kt (e : IE) : Ty := IE.rec (motive := fun _ => Ty) (fun a _ _ _ => a) e
def IE.m (e : IE) : Opd := IE.rec (motive := fun _ => Opd) (fun _ a _ _ => a) e
def IE.k (e : IE) : Opd := IE.rec (motive := fun _ => Opd) (fun _ _ a _ => a) e
def IE.v (e : IE) : Opd := IE.rec (motive := fun _ => Opd) (fun _ _ _ a => a) e
inductive Ins where
  | pu (d : Dst) (p : PI)
  | al (d : Dst) (p : AI)
  | ef (d : Dst) (p : EI)
  | ct (d : Dst) (c : CI)
  | gd (x : Opd) (want : Bool) (d : Dst) (i : Ins)
  | chk (l : List Ck)
  | two (n : Nat) (x y : Opd) (n' : Nat) (x' y' : Opd)
  | ins (l : List IE)
  | pb (d : Dst) (op : BinOp) (x y : Opd)
  | bad
inductive Ci where
  | reg (l : List Ins)
  | mid (l : List Ins)
  | wait (d : Dst) (l : List Ins)
  | cond (x : Opd) (a b : List Ci)
  | block (id : Nat) (b : List Ci)
  | inBlock (id : Nat)
  | loop (b : List Ci)
  | inLoop (b : List Ci)
  | scope (c : Code)
  | inScope (c : Code)
  | exit (id : Nat)
  | goto (l : Nat)
  | ret
  | rangeF (f : Opd) (params : List Nat) (assign body : Code)
  | inRF (l : Key)
  | endRF (l : Key)
  | beginRound
  | bad
inductive PE where
  | mk (v : AV) (recovered : Bool)
inductive Md where
  | run
  | returning
  | panicking (chain : List PE)
inductive FI where
  | mk (fn : Nat) (defers : List Df) (mode : Md) (deferred : Bool) (rnd : Option Key)
inductive Fr where
  | mk (L : Lo) (todo : List Ci) (fi : FI)
inductive Cfg where
  | mk (L : Lo) (todo : List Ci) (fi : FI) (cs : List Fr) (h : Hp) (nx : Key)
inductive Sp where
  | go (c : Cfg)
  | done (v : AV)
  | br (l : List Cfg)
  | fail
end
end Go.Ev
