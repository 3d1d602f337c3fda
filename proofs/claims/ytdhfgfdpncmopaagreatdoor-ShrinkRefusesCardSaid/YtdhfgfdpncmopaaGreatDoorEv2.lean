/- THE EVALUATOR, part 2 of 12: EvRun EvTree EvRel EvOps EvMem EvNam -/
import Derived.Test.YtdhfgfdpncmopaaGreatDoorEv1
import Derived.Laws.Sem
import Derived.Laws.World
import Derived.Laws.Cells
import Derived.Laws.Entries
set_option linter.unusedVariables false
set_option linter.unusedSectionVars false
set_option linter.unusedSimpArgs false
namespace Go.Ev
noncomputable section
set_option linter.unusedVariables false
variable [Fk]
/-! ## compiling -/
def gl (E : Env) : Nat := E.gm
def bytesO (E : Env) (t : TypeId) : Nat := match E.ts.get t with | some i => i.bytes | none => 10000000
def szO (E : Env) (t : TypeId) : Nat := match E.size t with | some n => n | none => 0
def zeroA (E : Env) (t : TypeId) : Option AV :=
  match E.ts.get t with
  | some i => match i.zero with
    | some v => some (ofV v)
    | none => none
  | none => none
def fieldsOf (E : Env) (t : TypeId) : Option (List Field) :=
  match E.und t with
  | some (.struct fs) => some fs.toList
  | _ => none
def isConstO : Operand → Bool
  | .const _ => true
  | _ => false
def eqSure (E : Env) (t : TypeId) (x y : Operand) : Bool :=
  isConstO x || isConstO y || (match E.und t with | some (.interface ms) => ms.isEmpty | _ => true)
def eqTy (E : Env) (t : TypeId) : Ty :=
  match E.und t with
  | some (.struct _) => bif E.P.eqGuardType E.P.depth t then .bad else tyOf E 8 t
  | some (.array _ _) => bif E.P.eqGuardType E.P.depth t then .bad else tyOf E 8 t
  | _ => tyOf E 8 t
def isIntOrStr (E : Env) (t : TypeId) : Bool :=
  match E.und t with
  | some (.int _) => true
  | some .string => true
  | _ => false
def binI (q : Operand → Opd) (E : Env) (op : BinOp) (t : TypeId) (x y : Operand) : PI :=
  match op with
  | .eql => bif isIntOrStr E t then .ibin .eql (q x) (q y) else .eqv false (eqTy E t) (eqSure E t x y) (q x) (q y)
  | .neq => bif isIntOrStr E t then .ibin .neq (q x) (q y) else .eqv true (eqTy E t) (eqSure E t x y) (q x) (q y)
  | op => .ibin op (q x) (q y)
def isU8 (E : Env) (t : TypeId) : Bool := match E.und t with | some (.int .u8) => true | _ => false
def convB (E : Env) (s d : TypeId) : Bool :=
  match E.und d with
  | some (.slice e) => isU8 E e && (match E.und s with | some .string => true | _ => false)
  | _ => false
def convM (E : Env) (s d : TypeId) : Bool := Nat.beq s d && (match E.und d with
  | some (.slice e) => isU8 E e
  | _ => false)
def convP (q : Operand → Opd) (E : Env) (s d : TypeId) (x : Operand) : PI :=
  match E.und s, E.und d with
  | some _, some (.int k) => .convI k (q x)
  | some (.slice e), some .string => bif isU8 E e then .b2s (q x) else .bad
  | some _, some .string => .convS (q x)
  | _, _ => .bad
def sliceP (q : Operand → Opd) (E : Env) (t : TypeId) (x : Operand) (lo hi mx : Option Operand) : PI :=
  match E.und t with
  | some .string => match mx with
    | none => .sliceStr (q x) (lo.map q) (hi.map q)
    | some _ => .bad
  | some (.slice el) => bif hi.isNone && mx.isSome then .bad else match E.size el with
    | some n => .sliceSl n (q x) (lo.map q) (hi.map q) (mx.map q)
    | none => .bad
  | some (.array n el) => bif hi.isNone && mx.isSome then .bad else match E.size el with
    | some sz => .sliceArr n sz (q x) (lo.map q) (hi.map q) (mx.map q)
    | none => .bad
  | some (.pointer arr) => match E.und arr with
    | some (.array n el) => bif hi.isNone && mx.isSome then .bad else match E.size el with
      | some sz => .sliceArr n sz (q x) (lo.map q) (hi.map q) (mx.map q)
      | none => .bad
    | _ => .bad
  | _ => .bad
def partsP (q : Operand → Opd) (places : Nat → Option (Nat × Nat)) : List (Nat × Operand) → Option (List (Nat × Nat × Opd))
  | [] => some []
  | (i, o) :: l => match places i, partsP q places l with
    | some (off, n), some m => some ((off, n, q o) :: m)
    | _, _ => none
def fplace (E : Env) (fs : List Field) (i : Nat) : Option (Nat × Nat) :=
  match fs[i]? with
  | some f => match E.size f.type with
    | some n => some (f.offset, n)
    | none => none
  | none => none
def buildP (q : Operand → Opd) (E : Env) (t : TypeId) (ps : List (Nat × Operand)) : PI :=
  match zeroA E t, E.und t with
  | some z, some (.struct fs) => bif fs.toList.all fun f => (E.size f.type).isSome then (match partsP q (fplace E fs.toList) ps with
    | some l => .build z.cells l
    | none => .bad) else .bad
  | some z, some (.array _ el) => match E.size el with
    | some n => match partsP q (fun i => some (i * n, n)) ps with
      | some l => .build z.cells l
      | none => .bad
    | none => .bad
  | _, _ => .bad
def lookupP (q : Operand → Opd) (E : Env) (t : TypeId) (x k : Operand) (ok : Bool) : PI :=
  match E.und t with
  | some (.map kt el) => match zeroA E el with
    | some z => bif keyTy (tyOf E 8 kt) then .lookup (tyOf E 8 kt) z ok (q x) (q k) else .bad
    | none => .bad
  | _ => .bad
def assertP (q : Operand → Opd) (E : Env) (x : Operand) (xt a : TypeId) (ok : Bool) : PI :=
  match E.und a, zeroA E a with
  | some (.interface want), some z => .assertI want.toList z ok (q x)
  | some _, some z => .assertC a z ok (q x)
  | _, _ => .bad
def lenP (q : Operand → Opd) (E : Env) (t : TypeId) (x : Operand) : PI :=
  match E.und t with
  | some .string => .lenStr (q x)
  | some (.array n _) => .lenC n
  | some (.slice _) => .lenSl (q x)
  | some (.map _ _) => .lenMap (q x)
  | some (.pointer arr) => match E.und arr with
    | some (.array n _) => .lenC n
    | _ => .bad
  | _ => .bad
def callP (q : Operand → Opd) (E : Env) (c : Call) : PI :=
  match c.callee, c.argTypes.toList, c.args.toList with
  | .builtin .len, t :: _, x :: _ => lenP q E t x
  | .builtin .cap, t :: _, x :: _ => match E.und t with
    | some (.slice _) => .capSl (q x)
    | _ => .bad
  | .builtin .min, _, x :: xs => .minmax false (q x) (xs.map q)
  | .builtin .max, _, x :: xs => .minmax true (q x) (xs.map q)
  | _, _, _ => .bad
def pureI (q : Operand → Opd) (E : Env) : Op → PI
  | .move x => .mv (q x)
  | .pick c a b => .pick (q c) (q a) (q b)
  | .load t x => match E.szA t with
    | some (n, a) => bif a then .loadN n (q x) else .load1 (q x)
    | none => .bad
  | .binOp op t x y _ => binI q E op t x y
  | .unOp op _ x => .un op (q x)
  | .convert s d x => convP q E s d x
  | .makeInterface t x => match E.und t with
    | some (.interface _) => .bad
    | some _ => .iface t (q x)
    | none => .bad
  | .makeFunc fn first cap => .func fn (first.toList.map q) (cap.toList.map q)
  | .slice t x lo hi mx => sliceP q E t x lo hi mx
  | .fieldAddr s x i => match fieldsOf E s with
    | some fs => match fplace E fs i with
      | some (off, _ + 1) => .addOff off (q x)
      | _ => .bad
    | none => .bad
  | .field t x i => match fieldsOf E t with
    | some fs => match fs[i]? with
      | some f => match E.szA f.type with
        | some (n, a) => .field f.offset n a (q x)
        | none => .bad
      | none => .bad
    | none => .bad
  | .indexAddr t x ix => match E.und t with
    | some (.slice el) => match E.size el with
      | some n => .idxSl n (q x) (q ix)
      | none => .bad
    | some (.array n el) => match E.size el with
      | some sz => .idxArr n sz (q x) (q ix)
      | none => .bad
    | _ => .bad
  | .index t x ix => match E.und t with
    | some .string => .idxStr (q x) (q ix)
    | some (.array n el) => match E.szA el with
      | some (sz, a) => .idxAgg n sz a (q x) (q ix)
      | none => .bad
    | _ => .bad
  | .lookup t x k ok => lookupP q E t x k ok
  | .typeAssert x xt a ok => assertP q E x xt a ok
  | .extract x i => .extract i (q x)
  | .build t ps => buildP q E t ps.toList
  | .nilCheck x => .nilck (q x)
  | .entry x => .entry (q x)
  | .waits g => bif inM (gl E) g then .waits (Key.ofNat g) else .bad
  | .call c => callP q E c
  | _ => .bad
def allocOb (E : Env) (t : TypeId) (z : AV) : Ob :=
  match E.und t with
  | some (.array n el) => match E.size el with
    | some (k + 1) => bif Nat.beq z.cells.length (n * (k + 1)) then rowsOf (k + 1) n z.cells else rowOf z.cells
    | _ => rowOf z.cells
  | _ => rowOf z.cells
def allocI (q : Operand → Opd) (E : Env) : Op → AI
  | .alloc t => match zeroA E t with
    | some z => .alloc (allocOb E t z)
    | none => .bad
  | .box t x => match E.und t with
    | some (.array n el) => match E.size el with
      | some (k + 1) => .box (k + 1) n (q x)
      | _ => .box 0 0 (q x)
    | _ => .box 0 0 (q x)
  | .buildSlice t len ps => match E.und t with
    | some (.slice el) => match E.size el, zeroA E el with
      | some n, some z => bif Nat.beq z.cells.length n && Nat.ble (len * n) 16777216 then (match partsP q (fun i => some (i * n, n)) ps.toList with
        | some l => .bslice (bif isU8 E el then strGen else 0) n len z.cells l
        | none => .bad) else .bad
      | _, _ => .bad
    | _ => .bad
  | .makeMap t r => match r with
    | none => .mkMap
    | some x => match E.und t with
      | some (.map _ _) => .mkMapN (q x)
      | _ => .bad
  | .makeSlice t l c => match E.und t with
    | some (.slice el) => match E.size el, zeroA E el with
      | some n, some z => bif Nat.beq z.cells.length n && Nat.ble (bytesO E el) 1000000 then .mkSlice n z.cells (q l) (q c) else .bad
      | _, _ => .bad
    | _ => .bad
  | .convert s d x => bif convB E s d then .s2b (q x) else .bad
  | .range t x => match E.und t with
    | some .string => .rangeS (q x)
    | some (.map _ _) => .rangeM (q x)
    | _ => .bad
  | _ => .bad
def kTy (E : Env) (t : TypeId) : Ty :=
  match E.und t with
  | some (.map kt _) => bif keyTy (tyOf E 8 kt) then tyOf E 8 kt else .bad
  | _ => .bad
def isClone (E : Env) (f : Operand) : Bool :=
  match f with
  | .func f => match E.fs.get f with
    | some fn => fn.body.isNone && decide (fn.name = "maps.clone") && (decide (fn.origin = "maps.clone") || decide (fn.origin = ""))
    | none => false
  | _ => false
def effI (q : Operand → Opd) (E : Env) : Op → EI
  | .assign x => .asg (q x)
  | .convert s d x => bif convM E s d then .mark (q x) else .bad
  | .store t x y => match E.size t with
    | some n => .store n (q x) (q y)
    | none => .bad
  | .mapUpdate t m k v => .mapUp (kTy E t) (q m) (q k) (q v)
  | .insert t m k v => .mapUp (kTy E t) (q m) (q k) (q v)
  | .mapEntry t m k => match E.und t with
    | some (.map _ el) => match zeroA E el with
      | some z => .mapEn (kTy E t) z (q m) (q k)
      | none => .bad
    | _ => .bad
  | .entryStore _ m s v => .enStore (q m) (q s) (q v)
  | .call c => match c.callee, c.argTypes.toList, c.args.toList with
    | .builtin .append, st :: xt :: _, x :: y :: _ => match E.und st, E.und xt with
      | some (.slice _), some (.int _) => .bad
      | some (.slice el), some _ => match E.size el, zeroA E el with
        | some (n + 1), some z => bif Nat.beq z.cells.length (n + 1) && Nat.ble (bytesO E el) 1000000 then .append (n + 1) (q x) (q y) else .bad
        | _, _ => .bad
      | _, _ => .bad
    | .builtin .copy, st :: _, x :: y :: _ => match E.und st with
      | some (.slice el) => match E.size el with
        | some (n + 1) => .copy (n + 1) (q x) (q y)
        | _ => .bad
      | _ => .bad
    | .builtin .delete, t :: _, m :: k :: _ => .del (kTy E t) (q m) (q k)
    | .builtin .clear, t :: _, x :: _ => match E.und t with
      | some (.map _ _) => .clearM (q x)
      | some (.slice el) => match zeroA E el with
        | some z => .clearS z.cells (q x)
        | none => .bad
      | _ => .bad
    | .value f, _, [x] => bif isClone E f then .clone (q x) else .bad
    | _, _, _ => .bad
  | _ => .bad
def hasBody (E : Env) (f : Nat) : Bool := match E.fs.get f with | some fn => fn.body.isSome | none => false
def ctlI (q : Operand → Opd) (E : Env) : Op → CI
  | .call c => match c.callee with
    | .builtin .recover => .recover
    | .builtin .panic => match c.args.toList with
      | x :: _ => .panic (q x)
      | [] => .bad
    | .builtin _ => .bad
    | .invoke x name => .invoke (q x) name (c.args.toList.map q)
    | .value (.func f) => bif Nat.beq f E.sum && (c.args.toList.isEmpty && hasBody E f) then .sum else .callF f (c.args.toList.map q)
    | .value x => .callV (q x) (c.args.toList.map q)
  | .defer c => match c.callee with
    | .builtin .delete => match c.argTypes.toList, c.args.toList with
      | t :: _, m :: k :: _ => .deferD t (q m) (q k)
      | _, _ => .bad
    | .builtin b => .deferB b (c.args.toList.map q)
    | .invoke x name => .deferI (q x) name (c.args.toList.map q)
    | .value x => .deferV (q x) (c.args.toList.map q)
  | .panic x => .panic (q x)
  | .next x s => .next s (q x)
  | _ => .bad
def kindOf (E : Env) : Op → Nat
  | .assign _ | .store .. | .mapUpdate .. | .insert .. | .mapEntry .. | .entryStore .. => 2
  | .alloc _ | .box .. | .buildSlice .. | .makeMap .. | .makeSlice .. | .range .. => 1
  | .convert s d _ => bif convB E s d then 1 else bif convM E s d then 2 else 0
  | .call c => match c.callee with
    | .builtin .len | .builtin .cap | .builtin .min | .builtin .max => 0
    | .builtin .append | .builtin .copy | .builtin .delete | .builtin .clear => 2
    | .builtin .recover | .builtin .panic => 3
    | .builtin _ => 4
    | .value f => bif isClone E f then 2 else 3
    | .invoke .. => 3
  | .defer _ | .panic _ | .next .. => 3
  | .ready _ | .makeChan .. | .sliceToArrayPointer .. | .go _ | .send .. | .recv .. | .select .. => 4
  | _ => 0
def insU (q : Operand → Opd) (E : Env) (d : Dst) (o : Oper) : Ins :=
  match kindOf E o.op with
  | 0 => .pu d (pureI q E o.op)
  | 1 => .al d (allocI q E o.op)
  | 2 => .ef d (effI q E o.op)
  | 3 => .ct d (ctlI q E o.op)
  | _ => .bad
def insG (q : Operand → Opd) (arr : Array Oper) (d : Dst) (o : Oper) (i : Ins) : Ins :=
  match o.guard with
  | none => i
  | some (j, want) => match arr[j]? with
    | some p => match p.dst with
      | some t => .gd (q (.tmp t)) want d i
      | none => .bad
    | none => .bad
def insOf (q : Operand → Opd) (E : Env) (arr : Array Oper) (d : Dst) (o : Oper) : Ins := insG q arr d o (insU q E d o)
def isCmp (op : BinOp) : Bool :=
  match op with
  | .lss | .leq | .gtr | .geq | .eql | .neq => true
  | _ => false
def brk (i : Ins) : Ins :=
  match i with
  | .pu d (.ibin op x y) => bif isCmp op then .pb d op x y else .pu d (.ibin op x y)
  | .al d (.mkSlice sz z l c) => .al d (.mkSliceN sz z l c)
  | i => i
def insOfB (q : Operand → Opd) (E : Env) (arr : Array Oper) (d : Dst) (o : Oper) : Ins := insG q arr d o (brk (insU q E d o))
/-! what is known of slots without looking there -/
inductive Cle where
  | mk (t : Nat) (dep : Option Nat) (x : Opd)
abbrev Cl := List Cle
def clGet (t : Nat) : Cl → Option Cle
  | [] => none
  | .mk u d x :: l => bif Nat.beq t u then some (.mk u d x) else clGet t l
def slotX (nd t : Nat) : Opd := bif inNd nd t then slot t .t else .c .top
def opdW (nd G : Nat) (cl : Cl) : Operand → Opd
  | .tmp t => match clGet t cl with
    | some (.mk _ _ x) => x
    | none => slotX nd t
  | .const v => .c (ofV v)
  | .global g => bif inM G g then .c (.ptr (Key.ofNat g) 0 0) else .c .top
  | .func f => .c (.func (.fn (.func f)) [] [])
def depN (t : Nat) : Option Nat → Bool
  | some d => Nat.beq d t
  | none => false
def kill (t : Nat) : Cl → Cl
  | [] => []
  | .mk u d x :: l => bif Nat.beq t u || depN t d then kill t l else .mk u d x :: kill t l
def shiftO : Opd → Option Opd
  | .w0 => some .w1
  | .w1 => some .w2
  | .w2 => none
  | x => some x
def shiftL : Cl → Cl
  | [] => []
  | .mk u d x :: l => match shiftO x with
    | some y => .mk u d y :: shiftL l
    | none => shiftL l
def pushCl (t : Option Nat) (cl : Cl) : Cl :=
  match t with
  | some t => .mk t none .w0 :: shiftL (kill t cl)
  | none => cl
def aliasCl (nd t : Nat) (x : Operand) (cl : Cl) : Cl :=
  match x with
  | .tmp v => match clGet v cl with
    | some (.mk _ d y) => bif depN t d then kill t cl else .mk t d y :: kill t cl
    | none => bif Nat.beq t v then cl else bif inNd nd v then .mk t (some v) (slotX nd v) :: kill t cl else kill t cl
  | .const v => .mk t none (.c (ofV v)) :: kill t cl
  | .func f => .mk t none (.c (.func (.fn (.func f)) [] [])) :: kill t cl
  | .global _ => kill t cl
def isMv (o : Oper) : Option (Nat × Operand) :=
  match o.guard, o.dst, o.op with
  | none, some t, .move x => some (t, x)
  | _, _, _ => none
def dstN (nd : Nat) : Option Tmp → Dst
  | none => .no
  | some t => bif inNd nd t then slot t .s else .w
def dst : Option Tmp → Dst
  | none => .no
  | some t => slot t .s
def aftO (nd : Nat) (cl : Cl) (o : Oper) : Cl :=
  match isMv o with
  | some (t, x) => aliasCl nd t x cl
  | none => pushCl o.dst cl
def aftOs (nd : Nat) (cl : Cl) : List Oper → Cl
  | [] => cl
  | o :: os => aftOs nd (aftO nd cl o) os
def okD (n : Nat) : Option Tmp → Bool
  | none => true
  | some t => Nat.blt t n && Nat.blt t 512
def compOs (E : Env) (arr : Array Oper) (x : Cx) (cl : Cl) : List Oper → List Ins
  | [] => []
  | o :: os => bif okD x.n o.dst then (match isMv o with
    | some (t, y) => bif inNd x.nd t then .pu (slot t .o) (.mv (opdW x.nd (gl E) cl y)) :: compOs E arr x (aliasCl x.nd t y cl) os else compOs E arr x (aliasCl x.nd t y cl) os
    | none => insOfB (opdW x.nd (gl E) cl) E arr (dstN x.nd o.dst) o :: compOs E arr x (pushCl o.dst cl) os) else [.bad]
def tmpsOf (os : List Operand) : List Nat := os.filterMap fun | .tmp t => some t | _ => none
def guardT (arr : Array Oper) (o : Oper) : List Nat :=
  match o.guard with
  | some (j, _) => match arr[j]? with
    | some p => p.dst.toList
    | none => []
  | none => []
def needX (cl : Cl) : List Nat → Nat → Nat
  | [], m => m
  | t :: l, m => needX cl l (match clGet t cl with
    | some (.mk _ (some d) _) => Nat.lor m (Nat.pow 2 d)
    | some (.mk _ none _) => m
    | none => Nat.lor m (Nat.pow 2 t))
def bits : List Nat → Nat → Nat
  | [], m => m
  | t :: l, m => bits l (Nat.lor m (Nat.pow 2 t))
def full : Nat := Nat.sub (Nat.pow 2 512) 1
def needOs (arr : Array Oper) (cl : Cl) : List Oper → Nat → Nat
  | [], m => m
  | o :: os, m => needOs arr (aftO full cl o) os (needX cl (guardT arr o) (match isMv o with
    | some _ => m
    | none => needX cl (tmpsOf o.op.operands.toList) m))
/-! regions that draw: one order, and what may float -/
def memP : PI → Bool
  | .load1 _ | .loadN _ _ | .lookup .. | .lenMap _ | .entry _ | .waits _ | .b2s _ | .sliceArr .. => true
  | _ => false
def ckOf (arr : Array Oper) (o : Oper) (c : Ck) : Ck :=
  match o.guard with
  | none => c
  | some (j, want) => match arr[j]? with
    | some p => match p.dst with
      | some t => slot t fun x y z => .g x y z want c
      | none => c
    | none => c
def ckIns (E : Env) (q : Operand → Opd) (arr : Array Oper) (o : Oper) : Option Ck :=
  match o.dst with
  | none => none
  | some t => match insU q E .no o with
    | .pu _ p => bif memP p then some (slot t fun a b c => ckOf arr o (.p a b c p)) else none
    | .al _ p => some (slot t fun a b c => ckOf arr o (.a a b c p))
    | _ => none
def isQ (E : Env) (o : Oper) : Bool := Nat.ble (kindOf E o.op) 1
def marked (ops : Array Oper) : List (Nat × Oper × Nat) :=
  (List.range ops.size).zip (ops.toList.zip (Region.before ops).toList)
def subM (m n : Nat) : Bool := Nat.beq (Nat.land m n) m
def takeQ (E : Env) (done : Nat) : List (Nat × Oper × Nat) → List (Nat × Oper × Nat) × List (Nat × Oper × Nat) × Nat
  | [] => ([], [], done)
  | (i, o, m) :: l =>
    bif isQ E o && subM m done then
      match takeQ E (Nat.lor done (Nat.pow 2 i)) l with
      | (a, b, d) => ((i, o, m) :: a, b, d)
    else match takeQ E done l with
      | (a, b, d) => (a, (i, o, m) :: b, d)
def takeE (E : Env) (done : Nat) : List (Nat × Oper × Nat) → Option ((Nat × Oper × Nat) × List (Nat × Oper × Nat))
  | [] => none
  | (i, o, m) :: l =>
    bif !isQ E o && subM m done then some ((i, o, m), l)
    else match takeE E done l with
      | some (x, r) => some (x, (i, o, m) :: r)
      | none => none
def pend (E : Env) (q : Operand → Opd) (arr : Array Oper) (m : Nat) : List (Nat × Oper × Nat) → List Ck
  | [] => []
  | (i, o, _) :: l => bif inM m i then pend E q arr m l else match ckIns E q arr o with
    | some c => c :: pend E q arr m l
    | none => pend E q arr m l
def isSt (o : Oper) : Bool := match o.guard, o.op, o.dst with
  | none, .store .., none => true
  | _, _, _ => false
def twoI (E : Env) (q : Operand → Opd) (o p : Oper) : Ins :=
  match effI q E o.op, effI q E p.op with
  | .store n x y, .store n' x' y' => .two n x y n' x' y'
  | _, _ => .bad
def isIn (o : Oper) : Bool := match o.guard, o.op, o.dst with
  | none, .insert .., none => true
  | _, _, _ => false
def ieOf (E : Env) (q : Operand → Opd) (o : Oper) : Option IE :=
  match effI q E o.op with
  | .mapUp kt m k v => some (.mk kt m k v)
  | _ => none
def ieList (E : Env) (q : Operand → Opd) : List (Nat × Oper × Nat) → Option (List IE)
  | [] => some []
  | x :: l => match ieOf E q x.2.1, ieList E q l with
    | some e, some r => some (e :: r)
    | _, _ => none
def landAll : Nat → List (Nat × Oper × Nat) → Nat
  | m, [] => m
  | m, x :: l => landAll (Nat.land m x.2.2) l
def nowIn (d : Nat) (e : Nat × Oper × Nat) : Bool := isIn e.2.1 && subM e.2.2 d
def lorAll : Nat → List (Nat × Oper × Nat) → Nat
  | d, [] => d
  | d, x :: l => lorAll (Nat.lor d (Nat.pow 2 x.1)) l
def manyO (E : Env) (q : Operand → Opd) (arr : Array Oper) (qs R Q : List (Nat × Oper × Nat)) : Option (List IE) :=
  match R with
  | [] => none
  | x :: R' => bif Q.all (fun y => R.all fun z => inM y.2.2 z.1) then (match pend E q arr (landAll x.2.2 R') qs with
    | [] => ieList E q R
    | _ => none) else none
def plan (E : Env) (q : Operand → Opd) (arr : Array Oper) : Nat → Nat → List (Nat × Oper × Nat) → List (Nat × Oper × Nat) → List Ins
  | 0, _, _, _ => [.bad]
  | fuel + 1, done, qs, todo =>
    match takeQ E done todo with
    | (a, rest, d) => (a.map fun x => insOf q E arr (dst x.2.1.dst) x.2.1) ++
      (bif rest.all (fun e => !(isQ E e.2.1 && subM e.2.2 d)) then
        match rest with
        | [] => []
        | _ =>
          let manyP := match manyO E q arr (qs ++ a) (rest.filter (nowIn d)) (rest.filter fun e => !nowIn d e) with
            | some r => .ins r :: plan E q arr fuel (lorAll d (rest.filter (nowIn d))) (qs ++ a) (rest.filter fun e => !nowIn d e)
            | none => [.bad]
          match takeE E d rest with
          | none => [.bad]
          | some ((i, o, m), rest') =>
            bif rest'.all (fun e => isQ E e.2.1 || inM e.2.2 i) then
              insOf q E arr (dst o.dst) o :: .chk (pend E q arr m (qs ++ a)) :: plan E q arr fuel (Nat.lor d (Nat.pow 2 i)) ((qs ++ a).filter fun x => !inM m x.1) rest'
            else match rest' with
              | [(_, p, n)] => bif isSt o && isSt p then (match pend E q arr (Nat.land m n) (qs ++ a) with | [] => [twoI E q o p] | _ => [.bad]) else manyP
              | _ => manyP
      else [.bad])
def readsOf (arr : Array Oper) (o : Oper) : List Nat :=
  (match o.guard with
   | some (j, _) => match arr[j]? with
     | some p => p.dst.toList
     | none => []
   | none => []) ++ tmpsOf o.op.operands.toList
def orderOk (E : Env) (arr : Array Oper) (ms : List (Nat × Oper × Nat)) : Bool :=
  ms.all fun (i, o, m) =>
    (match o.guard with | some (j, _) => inM m j | none => true) &&
    (o.after.all fun e => !Region.binds .any e || Nat.blt e.on i) &&
    (match o.dst with
     | none => true
     | some t => ms.all fun (i', o', m') =>
        bif Nat.beq i i' then (!isQ E o || !(readsOf arr o).contains t)
        else (match o'.dst with | some t' => !Nat.beq t t' | none => true) &&
          (!(readsOf arr o').contains t || inM m' i || (!isQ E o && inM m i')))
def resOk (E : Env) (res : Nat) (o : Oper) : Bool := !isQ E o || (match o.dst with | some t => !inM res t | none => true)
def dstOk (E : Env) (q : Operand → Opd) (o : Oper) : Bool :=
  match o.dst, insU q E .no o with
  | none, .pu _ p => !memP p
  | none, .al _ _ => false
  | _, _ => true
def drawnIns (E : Env) (x : Cx) (arr : Array Oper) : List Ins :=
  let ms := marked arr
  bif (arr.toList.all fun o => okD x.n o.dst && (resOk E x.res o && dstOk E (opdW x.nd (gl E) []) o)) && orderOk E arr ms then plan E (opdW x.nd (gl E) []) arr (arr.size + 1) 0 [] ms else [.bad]
def regIns (E : Env) (arr : Array Oper) (draw : Bool) (x : Cx) (cl : Cl) : List Ins :=
  bif draw then drawnIns E x arr else compOs E arr x cl arr.toList
def aft (nd : Nat) (cl : Cl) : Code → Cl
  | .skip => cl
  | .region _ ops draw => bif draw then [] else aftOs nd cl ops.toList
  | .seq a b => aft nd (aft nd cl a) b
  | _ => []
def compC (E : Env) (x : Cx) (cl : Cl) (c : Code) : List Ci :=
  match c with
  | .skip => []
  | .label _ => []
  | .region _ ops draw => [.reg (regIns E ops draw x cl)]
  | .seq a b => compC E x cl a ++ compC E x (aft x.nd cl a) b
  | .cond y a b => [.cond (opdW x.nd (gl E) cl y) (compC E x cl a) (compC E x cl b)]
  | .block id b => [.block id (compC E x cl b)]
  | .loop b => [.loop (compC E x [] b)]
  | .scope b => [.scope b]
  | .exit id => [.exit id]
  | .goto l => [.goto l]
  | .ret => [.ret]
  | .rangeFunc f ps a b => [.rangeF (opdW x.nd (gl E) cl f) ps.toList a b]
  | .refuse _ => [.bad]
def needC (cl : Cl) (c : Code) : Nat :=
  match c with
  | .region _ ops draw => bif draw then needOs ops [] ops.toList (bits (ops.toList.flatMap fun o => tmpsOf o.op.operands.toList) 0) else needOs ops cl ops.toList 0
  | .seq a b => Nat.lor (needC cl a) (needC (aft full cl a) b)
  | .cond x a b => Nat.lor (needX cl (tmpsOf [x]) 0) (Nat.lor (needC cl a) (needC cl b))
  | .block _ b => needC cl b
  | .loop b => needC [] b
  | .scope b => needC [] b
  | .rangeFunc f _ a b => Nat.lor (needX cl (tmpsOf [f]) 0) (Nat.lor (needC [] a) (needC [] b))
  | _ => 0
def needR : List ResultVar → Nat → Nat
  | [], m => m
  | .tmp t :: l, m => needR l (Nat.lor m (Nat.pow 2 t))
  | .cell t _ :: l, m => needR l (Nat.lor m (Nat.pow 2 t))
def ndOf (E : Env) (f : Nat) : Nat :=
  match E.fs.get f with
  | some fn => match fn.body with
    | some c => needR fn.results.toList (needC [] c)
    | none => 0
  | none => 0
inductive Rv where
  | t (a b c : D)
  | cell (a b c : D) (n : Nat) (agg : Bool)
  | bad
def rvOf (E : Env) (x : Cx) : ResultVar → Rv
  | .tmp t => bif inNd x.nd t && inM x.res t then slot t .t else .bad
  | .cell t ty => bif inNd x.nd t && inM x.res t then (match E.szA ty with
    | some (n, g) => slot t fun a b c => .cell a b c n g
    | none => .bad) else .bad
def nOf (E : Env) (f : Nat) : Nat :=
  match E.fs.get f with
  | some fn => fn.ntmps
  | none => 0
def resOf (E : Env) (f : Nat) : Nat :=
  match E.fs.get f with
  | some fn => needR fn.results.toList 0
  | none => 0
def cxOf (E : Env) (f : Nat) : Cx := .mk (ndOf E f) (nOf E f) (resOf E f)
def compRes (E : Env) (f : Nat) : List Rv :=
  match E.fs.get f with
  | some fn => fn.results.toList.map (rvOf E (cxOf E f))
  | none => [.bad]
def compBody (E : Env) (f : Nat) : Option (List Ci) :=
  match E.fs.get f with
  | some fn => match fn.body with
    | some c => some (compC E (cxOf E f) [] c)
    | none => none
  | none => none
def ciAppend (l k : List Ci) : List Ci := List.rec (motive := fun _ => List Ci) k (fun a _ ih => a :: ih) l
/-! ## the machine -/
def hd (l : List AV) : AV := List.rec (motive := fun _ => AV) .top (fun a _ _ => a) l
def tl (l : List AV) : List AV := List.rec (motive := fun _ => List AV) [] (fun _ l _ => l) l
def leaf8 (l : List AV) : N AV := N.mk (hd l) (hd (tl l)) (hd (tl (tl l))) (hd (tl (tl (tl l)))) (hd (tl (tl (tl (tl l))))) (hd (tl (tl (tl (tl (tl l)))))) (hd (tl (tl (tl (tl (tl (tl l))))))) (hd (tl (tl (tl (tl (tl (tl (tl l))))))))
def tl8 (l : List AV) : List AV := tl (tl (tl (tl (tl (tl (tl (tl l)))))))
def tl1 : N AV := N.all .top
def tl2 : N (N AV) := N.all tl1
def fillT (l : List AV) : Tm := N.mk (N.mk (leaf8 l) (leaf8 (tl8 l)) (leaf8 (tl8 (tl8 l))) tl1 tl1 tl1 tl1 tl1) tl2 tl2 tl2 tl2 tl2 tl2 tl2
abbrev Kt := List Ci → Lo → FI → List Fr → Hp → Key → Sp
def enter (E : Env) (f : Nat) (vs : List AV) (dfd : Bool) (cs : List Fr) (h : Hp) (nx : Key) : Sp :=
  opt (compBody E f) .fail fun b => cnd (Nat.ble vs.length 24) (.go (.mk (.mk (fillT vs) .top .top .top) b (.mk f [] .run dfd none) cs h nx)) .fail
def putPs (tm : Tm) : List Nat → List AV → Option Tm
  | [], [] => some tm
  | t :: ts, a :: as => putPs (slot t fun x y z => tset x y z a tm) ts as
  | _, _ => none
def callMethod (E : Env) (h : Hp) (x : AV) (name : String) (args : List AV) (k : Nat → List AV → Sp) : Sp :=
  match x with
  | .iface t v => match E.ts.get t with
    | some i => match i.methods.toList.find? (fun m => m.name == name) with
      | some m => bif m.path.isEmpty then
          (match m.func, E.und t with
          | some (f, true), some (.pointer _) => k f (v :: args)
          | some (f, false), some (.pointer el) => asPtr v .fail fun p g o => (match E.szA el with
            | some (_, false) => opt (getCell h p g o) .fail fun a => k f (a :: args)
            | some (n, true) => opt (getCells h p g o n) .fail fun l => k f (.agg l :: args)
            | none => .fail)
          | some (f, false), some _ => k f (v :: args)
          | _, _ => .fail) else .fail
      | none => .fail
    | none => .fail
  | _ => .fail
def invokeFn (E : Env) (h : Hp) (fn : AFn) (cap args : List AV) (k : Nat → List AV → Sp) (r : Key → Nat → Tm → Code → Code → Sp) : Sp :=
  match fn with
  | .fn (.func f) => k f (args ++ cap)
  | .fn (.method name) => match args with
    | x :: rest => callMethod E h x name rest k
    | [] => .fail
  | .fn (.via t path f pointer) => match args with
    | x :: rest => bif path.isEmpty then (match E.und t, pointer with
        | some (.pointer _), true => k f (x :: rest)
        | some (.pointer _), false => .fail
        | some _, false => k f (x :: rest)
        | _, _ => .fail) else .fail
    | [] => .fail
  | .yield l => match hget l h with
    | .loop _ _ fn t params assign body _ x => cnd (Nat.beq x.nd (cxOf E fn).nd) (cnd (Nat.beq x.n (nOf E fn)) (opt (E.fs.get fn) .fail fun _ => opt (putPs t params args) .fail fun t' => r l fn t' assign body) .fail) .fail
    | _ => .fail
  | _ => .fail
def roundCfg (E : Env) (l : Key) (fn : Nat) (t : Tm) (assign body : Code) (cs : List Fr) (h : Hp) (nx : Key) : Sp :=
  .go (.mk (.mk t .top .top .top) (ciAppend (compC E (cxOf E fn) [] assign) (.beginRound :: compC E (cxOf E fn) [] body)) (.mk fn [] .run false (some l)) cs h nx)
def raise1 (fi : FI) (v : AV) : FI :=
  match fi with
  | .mk fn ds (.panicking ch) d r => .mk fn ds (.panicking (.mk v false :: ch)) d r
  | .mk fn ds _ d r => .mk fn ds (.panicking [.mk v false]) d r
def raiseC (fi : FI) (c : List PE) : FI :=
  match fi with
  | .mk fn ds (.panicking ch) d r => .mk fn ds (.panicking (c ++ ch)) d r
  | .mk fn ds _ d r => .mk fn ds (.panicking c) d r
def tryRec (fi : FI) (cs : List Fr) : Option (AV × List Fr) :=
  match fi, cs with
  | .mk _ _ _ true _, .mk L todo (.mk fn ds (.panicking (.mk v false :: older)) d r) :: rest => some (v, .mk L todo (.mk fn ds (.panicking (.mk v true :: older)) d r) :: rest)
  | _, _ => none
def notIn (l : List Nat) (n : Nat) : Bool :=
  match l with
  | [] => true
  | a :: l => cnd (Nat.beq a n) false (notIn l n)
def leftE (seen : List Nat) (since : Nat) : List En → Option (List En)
  | [] => some []
  | e :: es => match leftE seen since es with
    | some l => cnd (notIn seen e.b) (cnd (Nat.blt e.b since) (some (e :: l)) none) (some l)
    | none => none
def noneLeft (es : List En) (last : Nat) : Bool :=
  match es with
  | [] => true
  | e :: es => cnd (Nat.ble last e.b) (noneLeft es last) false
def nextA (h : Hp) (isString : Bool) (x : AV) : Option (List (AV × Hp)) :=
  match x with
  | .ptr f _ 0 => match hget f h, isString with
    | .strIter s pos, true =>
      cnd (Nat.blt pos s.length)
        (match Utf8.decode ⟨(s.map UInt8.ofNat).toArray⟩ pos with
        | (c, width) => some [(.tuple [.bool true, .int .i64 (.ofNat pos), .int .i32 c], hset f (.strIter s (pos + width)) h)])
        (some [(.tuple [.bool false], h)])
    | .mapIter none _ _ _, false => some [(.tuple [.bool false], h)]
    | .mapIter (some m) since seen last, false => asMapO (hget m h) none fun es clock =>
      bif !seen.isEmpty && !es.isEmpty && noneLeft es last then none else
      match leftE seen since es with
      | some [] => some [(.tuple [.bool false], h)]
      | some l => some (l.map fun e => (.tuple [.bool true, e.k, e.v], hset f (.mapIter (some m) since (seen ++ [e.b]) clock) h))
      | none => none
    | _, _ => none
  | _ => none
def addDf (d : Df) (fi : FI) (h : Hp) (k : FI → Hp → Sp) : Sp :=
  match fi with
  | .mk fn ds md dd none => k (.mk fn (d :: ds) md dd none) h
  | .mk _ _ _ _ (some _) => .fail
inductive Kx where
  | mk (rest : List Ci) (fi : FI) (cs : List Fr)
abbrev Ko := Kx → Lo → Hp → Key → Sp
abbrev Ht := Dst → List Ins → Ko → Ko
def inK {R : Type} (K : Kx) (f : List Ci → FI → List Fr → R) : R := Kx.rec (motive := fun _ => R) f K
def wait (d : Dst) (l : List Ins) (K : Kx) (L : Lo) : List Fr := inK K fun rest fi cs => .mk L (.wait d l :: rest) fi :: cs
def cSum : Ht := fun d _ ih K L h nx => ih K (put d (.bool true) L) h nx
def needO (h : Hp) : List (Key × Nat × Key) → Bool
  | [] => true
  | (f, sz, q) :: l => asLst (hget f h) false fun _ _ z q' _ => cnd (Nat.beq z sz) (cnd (Key.beq q q') (needO h l) false) false
def findS (h : Hp) (f : Nat) (vs : List AV) : List Sme → Option AV
  | [] => none
  | .mk g us a nd :: l => cnd (Nat.beq g f) (cnd (aveqs us vs) (cnd (needO h nd) (some a) (findS h f vs l)) (findS h f vs l)) (findS h f vs l)
def callS (E : Env) (f : Nat) (vs : List AV) : Ht := fun d l ih K L h nx =>
  opt (findS h f vs Fk.sm) (enter E f vs false (wait d l K L) h nx) fun a => cnd (hasBody E f) (ih K (put d a L) h nx) .fail
def cCallF (E : Env) (f : Nat) (args : List Opd) : Ht := fun d l ih K L h nx => callS E f (getOs args L) d l ih K L h nx
def cCallV (E : Env) (x : Opd) (args : List Opd) : Ht := fun d l ih K L h nx =>
  asFunc (getO x L) .fail fun fn first cap => invokeFn E h fn cap (first ++ getOs args L)
    (fun f vs => callS E f vs d l ih K L h nx)
    (fun k fn t a b => roundCfg E k fn t a b (wait d l K L) h nx)
def cInvoke (E : Env) (x : Opd) (name : String) (args : List Opd) : Ht := fun d l ih K L h nx =>
  callMethod E h (getO x L) name (getOs args L) fun f vs => callS E f vs d l ih K L h nx
def later (d : Dst) (ih : Ko) (x : Df) (K : Kx) (L : Lo) (h : Hp) (nx : Key) : Sp :=
  inK K fun rest fi cs => addDf x fi h fun fi h => ih (.mk rest fi cs) (put d undefA L) h nx
def cDeferV (x : Opd) (args : List Opd) : Ht := fun d _ ih K L h nx =>
  asFunc (getO x L) .fail fun fn first cap => later d ih (.fn fn cap (first ++ getOs args L)) K L h nx
def cDeferI (x : Opd) (name : String) (args : List Opd) : Ht := fun d _ ih K L h nx => later d ih (.fn (.fn (.method name)) [] (getO x L :: getOs args L)) K L h nx
def cDeferB (_ : Builtin) (_ : List Opd) : Ht := fun _ _ _ _ _ _ _ => .fail
def cDeferD (t : TypeId) (m k : Opd) : Ht := fun d _ ih K L h nx => later d ih (.del t (getO m L) (getO k L)) K L h nx
def cPanic (x : Opd) : Ht := fun d l _ K L h nx =>
  asIface (getO x L) .fail fun t v => inK K fun rest fi cs => .go (.mk L (.wait d l :: rest) (raise1 fi (.iface t v)) cs h nx)
def cRecover : Ht := fun d _ ih K L h nx => inK K fun rest fi cs =>
  match fi, cs with
  | .mk _ _ _ _ (some _), _ => .fail
  | .mk _ _ _ true _, [] => .fail
  | fi, cs => match tryRec fi cs with
    | some (v, cs') => ih (.mk rest fi cs') (put d v L) h nx
    | none => ih (.mk rest fi cs) (put d .nilIface L) h nx
def cNext (s : Bool) (x : Opd) : Ht := fun d l ih K L h nx =>
  match nextA h s (getO x L) with
  | some [(v, h')] => ih K (put d v L) h' nx
  | some ps => inK K fun rest fi cs => .br (ps.map fun p => .mk (put d p.1 L) (.mid l :: rest) fi cs p.2 nx)
  | none => .fail
def CI.run (E : Env) (c : CI) : Ht :=
  CI.rec (motive := fun _ => Ht) cSum (cCallF E) (cCallV E) (cInvoke E) cDeferV cDeferI cDeferB cDeferD cPanic cRecover cNext (fun _ _ _ _ _ _ _ => .fail) c
def treq : Tr Row → Tr Row → Bool
  | .e, .e => true
  | .lf (.mk l g), .lf (.mk l' g') => cnd (aveqs l l') (Nat.beq g g') false
  | .n a b, .n a' b' => cnd (treq a a') (treq b b') false
  | _, _ => false
def obeq : Ob → Ob → Bool
  | .cells r g s d e c, .cells r' g' s' d' e' c' => cnd (cnd r r' (bnot r')) (cnd (Nat.beq g g') (cnd (Nat.beq s s') (cnd (Nat.beq d d') (cnd (Nat.beq e e') (treq c c') false) false) false) false) false
  | .map [] c, .map [] c' => Nat.beq c c'
  | _, _ => false
def ckRun (E : Env) (h : Hp) (L : Lo) : Ck → Bool
  | .p a b c p => opt (p.ev E h L) false fun v => aveq v (tget a b c L.tm)
  | .a a b c p => match tget a b c L.tm with
    | .ptr f 0 0 => opt (p.ev h f L) false fun r => cnd (aveq r.2 (.ptr f 0 0)) (obeq r.1 (hget f h)) false
    | .slice f 0 0 l cp sz ex => opt (p.ev h f L) false fun r => cnd (aveq r.2 (.slice f 0 0 l cp sz ex)) (obeq r.1 (hget f h)) false
    | .map f => opt (p.ev h f L) false fun r => cnd (aveq r.2 (.map f)) (obeq r.1 (hget f h)) false
    | _ => false
  | .g a b c want k => match tget a b c L.tm with
    | .bool t => cnd (cnd t want (bnot want)) (ckRun E h L k) true
    | .tuple _ => true
    | _ => false
def ckAll (E : Env) (h : Hp) (L : Lo) : List Ck → Bool
  | [] => true
  | c :: l => cnd (ckRun E h L c) (ckAll E h L l) false
abbrev It := List Ins → Ko → Ko
def iPu (E : Env) (d : Dst) (p : PI) : It := fun _ ih K L h nx => opt (p.ev E h L) .fail fun v => ih K (put d v L) h nx
def iAl (d : Dst) (p : AI) : It := fun _ ih K L h nx => opt (p.ev h nx L) .fail fun r => Prod.rec (motive := fun _ => Sp) (fun o v =>
  cnd (hget nx h).isNone (ih K (put d v L) (hset nx o h) nx.next) .fail) r
def iEf (E : Env) (d : Dst) (p : EI) : It := fun _ ih K L h nx => opt (p.ev E h nx L) .fail fun r => Tn.rec (motive := fun _ => Sp) (fun v h nx => ih K (put d v L) h nx) r
def iCt (E : Env) (d : Dst) (c : CI) : It := fun l ih => c.run E d l ih
def iGd (x : Opd) (want : Bool) (d : Dst) (i : Ins) (ihI : It) : It := fun l ih K L h nx =>
  asBool (getO x L) (asTuple (getO x L) .fail fun _ => ih K (put d undefA L) h nx)
    fun t => cnd (cnd t want (bnot want)) (ihI l ih K L h nx) (ih K (put d undefA L) h nx)
def iChk (E : Env) (l : List Ck) : It := fun _ ih K L h nx => cnd (ckAll E h L l) (ih K L h nx) .fail
def iTwo (n : Nat) (x y : Opd) (n' : Nat) (x' y' : Opd) : It := fun _ ih K L h nx =>
  asPtr (getO x L) .fail fun f _ _ => asPtr (getO x' L) .fail fun f' _ _ => cnd (Key.beq f f') .fail
    (opt (xStore n x y h nx L) .fail fun r => Tn.rec (motive := fun _ => Sp) (fun _ h nx =>
      opt (xStore n' x' y' h nx L) .fail fun r => Tn.rec (motive := fun _ => Sp) (fun _ h nx => ih K L h nx) r) r)
def isF (f : Key) (a : AV) : Bool := asMap a false fun g => Key.beq f g
def apart (E : Env) (L : Lo) (a b : IE) : Bool :=
  cnd (opt (aeq E 12 a.kt (getO a.k L) (getO b.k L)) false bnot) (opt (aeq E 12 b.kt (getO b.k L) (getO a.k L)) false bnot) false
def insOk (E : Env) (L : Lo) (f : Key) : List IE → Bool
  | [] => true
  | e :: l => cnd (isF f (getO e.m L)) (cnd (okKey E e.kt (getO e.k L)) (cnd (l.all (apart E L e)) (insOk E L f l) false) false) false
def insEs (L : Lo) : List IE → List En
  | [] => []
  | e :: l => .mk (getO e.k L) (getO e.v L) 0 :: insEs L l
def iIns (E : Env) (l : List IE) : It := fun _ ih K L h nx =>
  match l with
  | [] => .fail
  | e :: _ => asMap (getO e.m L) .fail fun f => asMapO (hget f h) .fail fun es _ => List.rec (motive := fun _ => Sp) (cnd (insOk E L f l) (ih K L (hset f (.mapu (insEs L l)) h) nx) .fail) (fun _ _ _ => .fail) es
def ubV (v : AV) (d : Dst) (l : List Ins) (ih : Ko) : Ko := fun K L h nx =>
  match v with
  | .ub => inK K fun rest fi cs => .br [.mk (put d (.bool false) L) (.mid l :: rest) fi cs h nx, .mk (put d (.bool true) L) (.mid l :: rest) fi cs h nx]
  | .le f t n => asIv (hget f h) .fail fun lo hi => inK K fun rest fi cs => .br [.mk (put d (.bool n) L) (.mid l :: rest) fi cs (hset f (.iv (iadd t 1) hi) h) nx, .mk (put d (.bool (bnot n)) L) (.mid l :: rest) fi cs (hset f (.iv lo t) h) nx]
  | .eqv f t n => asIv (hget f h) .fail fun lo hi => inK K fun rest fi cs => .br (.mk (put d (.bool (bnot n)) L) (.mid l :: rest) fi cs (hset f (.iv t t) h) nx ::
      (cnd (ilt lo t) [.mk (put d (.bool n) L) (.mid l :: rest) fi cs (hset f (.iv lo (isub t 1)) h) nx] [] ++ cnd (ilt t hi) [.mk (put d (.bool n) L) (.mid l :: rest) fi cs (hset f (.iv (iadd t 1) hi) h) nx] []))
  | v => ih K (put d v L) h nx
def iPb (d : Dst) (op : BinOp) (x y : Opd) : It := fun l ih K L h nx => opt (xIbinH op x y h L) .fail fun v => asBool v (ubV v d l ih K L h nx) fun _ => ih K (put d v L) h nx
def Ins.run (E : Env) (i : Ins) : It :=
  Ins.rec (motive := fun _ => It) (iPu E) iAl (iEf E) (iCt E) iGd (iChk E) iTwo (iIns E) iPb (fun _ _ _ _ _ _ => .fail) i
def ops (E : Env) (l : List Ins) : Ko :=
  List.rec (motive := fun _ => Ko) (fun K L h nx => inK K fun rest fi cs => .go (.mk L rest fi cs h nx)) (fun i l ih => i.run E l ih) l
/-! steps of code -/
def finish (v : AV) (fr : Fr) (cs : List Fr) (h : Hp) (nx : Key) : Sp :=
  match fr with
  | .mk L (.wait d l :: rest) (.mk fn ds .run dd rnd) => .go (.mk (put d v L) (.mid l :: rest) (.mk fn ds .run dd rnd) cs h nx)
  | .mk L (.inRF k :: rest) (.mk fn ds .run dd rnd) => .go (.mk L (.endRF k :: rest) (.mk fn ds .run dd rnd) cs h nx)
  | _ => .fail
def retV (fi : FI) (v : AV) (cs : List Fr) (h : Hp) (nx : Key) : Sp :=
  match cs with
  | [] => .fail
  | c :: rest => match fi with
    | .mk _ _ _ false _ => finish v c rest h nx
    | .mk _ _ _ true _ => match c with
      | .mk L todo (.mk fn ds (.panicking (.mk _ true :: _)) d r) => .go (.mk L todo (.mk fn ds .returning d r) rest h nx)
      | .mk L todo fi => .go (.mk L todo fi rest h nx)
def resV (h : Hp) (L : Lo) : List Rv → Option (List AV)
  | [] => some []
  | r :: l => match (match r with
      | .t a b c => some (tget a b c L.tm)
      | .cell a b c n g => asPtr (tget a b c L.tm) none fun f gn o => cnd g (opt (getCells h f gn o n) none fun l => some (.agg l)) (getCell h f gn o)
      | .bad => none : Option AV), resV h L l with
    | some a, some m => some (a :: m)
    | _, _ => none
def one : List AV → AV
  | [a] => a
  | l => .tuple l
def results (E : Env) (fi : FI) (L : Lo) (cs : List Fr) (h : Hp) (nx : Key) : Sp :=
  match fi with
  | .mk fn ds md dd rnd => opt (resV h L (compRes E fn)) .fail fun l => match cs with
    | [] => cnd dd .fail (cnd (Nat.beq fn E.root) (.done (one l)) .fail)
    | c :: rest => retV (.mk fn ds md dd rnd) (one l) (c :: rest) h nx
def jst (j : Option Code) : LoopState := Option.rec (motive := fun _ => LoopState) .ready (fun _ => .done) j
def endRound (h : Hp) (l : Key) (jump : Option Code) : Option Hp :=
  match hget l h with
  | .loop _ _ fn t ps a b df x => some (hset l (.loop (jst jump) jump fn t ps a b df x) h)
  | _ => none
def isRet : Option Code → Bool
  | none => true
  | some .ret => true
  | _ => false
def leave (E : Env) (jump : Option Code) : Kt := fun _ L fi cs h nx =>
  match fi with
  | .mk fn ds md dd none => bif isRet jump then .go (.mk L [] (.mk fn ds .returning dd none) cs h nx) else .fail
  | .mk fn ds md dd (some l) => opt (endRound h l jump) .fail fun h' => retV fi (.bool jump.isNone) cs h' nx
def exitA (id : Nat) : List Ci → Option (List Ci)
  | .inBlock id' :: k => bif Nat.beq id' id then some k else exitA id k
  | _ :: k => exitA id k
  | [] => none
def gotoA (E : Env) (x : Cx) (l : Nat) : List Ci → Option (List Ci)
  | .inScope body :: k => match findLabel body l with
    | some rest => some (ciAppend (compC E x [] rest) (.inScope body :: k))
    | none => gotoA E x l k
  | _ :: k => gotoA E x l k
  | [] => none
def cxFI (E : Env) (fi : FI) : Cx := match fi with | .mk fn _ _ _ _ => cxOf E fn
def tReg (E : Env) (l : List Ins) : Kt := fun rest L fi cs h nx => ops E l (.mk rest fi cs) L h nx
def tCond (x : Opd) (a b : List Ci) : Kt := fun rest L fi cs h nx =>
  asBool (getO x L) (match getO x L with
    | .ub => .br [.mk L (ciAppend b rest) fi cs h nx, .mk L (ciAppend a rest) fi cs h nx]
    | _ => .fail) fun t => cnd t (.go (.mk L (ciAppend a rest) fi cs h nx)) (.go (.mk L (ciAppend b rest) fi cs h nx))
def tBlock (id : Nat) (b : List Ci) : Kt := fun rest L fi cs h nx => .go (.mk L (ciAppend b (.inBlock id :: rest)) fi cs h nx)
def tInBlock (_ : Nat) : Kt := fun rest L fi cs h nx => .go (.mk L rest fi cs h nx)
def tLoop (b : List Ci) : Kt := fun rest L fi cs h nx => .go (.mk L (ciAppend b (.inLoop b :: rest)) fi cs h nx)
def tScope (E : Env) (c : Code) : Kt := fun rest L fi cs h nx => .go (.mk L (ciAppend (compC E (cxFI E fi) [] c) (.inScope c :: rest)) fi cs h nx)
def tInScope (_ : Code) : Kt := fun rest L fi cs h nx => .go (.mk L rest fi cs h nx)
def tExit (E : Env) (id : Nat) : Kt := fun rest L fi cs h nx => opt (exitA id rest) (leave E (some (.exit id)) rest L fi cs h nx) fun k => .go (.mk L k fi cs h nx)
def tGoto (E : Env) (l : Nat) : Kt := fun rest L fi cs h nx => opt (gotoA E (cxFI E fi) l rest) (leave E (some (.goto l)) rest L fi cs h nx) fun k => .go (.mk L k fi cs h nx)
def tRangeF (E : Env) (f : Opd) (ps : List Nat) (a b : Code) : Kt := fun rest L fi cs h nx =>
  match fi with
  | .mk fn ds md dd rnd =>
    let go (fi' : FI) (h' : Hp) (l nx' : Key) : Sp :=
      asFunc (getO f L) .fail fun g first cap => invokeFn E h' g cap (first ++ [.func (.yield l) [] []])
        (fun f vs => enter E f vs false (.mk L (.inRF l :: rest) fi' :: cs) h' nx')
        (fun k fn t x y => roundCfg E k fn t x y (.mk L (.inRF l :: rest) fi' :: cs) h' nx')
    bif !(ps.all fun t => Nat.blt t (nOf E fn) && Nat.blt t 512) then .fail else
    match rnd with
    | some l0 => match hget l0 h with
      | .loop _ _ _ _ _ _ _ df _ => cnd (hget nx h).isNone (go fi (hset nx (.loop .ready none fn L.tm ps a b df (cxOf E fn)) h) nx nx.next) .fail
      | _ => .fail
    | none => cnd (hget nx h).isNone (cnd (hget nx.next h).isNone (cnd (Key.beq nx nx.next) .fail
        (go (.mk fn (.collected nx :: ds) md dd none) (hset nx.next (.loop .ready none fn L.tm ps a b nx (cxOf E fn)) (hset nx (.deferred (some [])) h)) nx.next nx.next.next)) .fail) .fail
def tEndRF (E : Env) (l : Key) : Kt := fun rest L fi cs h nx =>
  match hget l h with
  | .loop .busy _ _ _ _ _ _ _ _ => .fail
  | .loop _ pend fn t ps a b df x => .go (.mk L (match pend with | some c => ciAppend (compC E (cxFI E fi) [] c) rest | none => rest) fi cs (hset l (.loop .exhausted pend fn t ps a b df x) h) nx)
  | _ => .fail
def tBegin : Kt := fun rest L fi cs h nx =>
  match fi with
  | .mk _ _ _ _ (some l) => match hget l h with
    | .loop .ready pend fn t ps a b df x => .go (.mk L rest fi cs (hset l (.loop .busy pend fn t ps a b df x) h) nx)
    | _ => .fail
  | _ => .fail
def failT : Kt := fun _ _ _ _ _ _ => .fail
def Ci.run (E : Env) (c : Ci) : Kt :=
  Ci.rec (motive_1 := fun _ => Kt) (motive_2 := fun _ => Unit) (tReg E) (tReg E) (fun _ _ => failT) (fun x a b _ _ => tCond x a b) (fun i b _ => tBlock i b) tInBlock
    (fun b _ => tLoop b) (fun b _ => tLoop b) (tScope E) tInScope (tExit E) (tGoto E) (leave E (some .ret)) (tRangeF E) (fun _ => failT) (tEndRF E) tBegin failT () (fun _ _ _ _ => ()) c
def unwind (E : Env) (L : Lo) (todo : List Ci) (fi : FI) (cs : List Fr) (h : Hp) (nx : Key) : Sp :=
  match fi with
  | .mk fn [] (.panicking ch) dd rnd => match cs with
    | .mk t td f :: rest => .go (.mk t td (raiseC f ch) rest h nx)
    | [] => .fail
  | .mk fn [] _ dd rnd => results E fi L cs h nx
  | .mk fn (d :: ds) md dd rnd =>
    match d with
    | .collected r => match hget r h with
      | .deferred (some xs) => .go (.mk L todo (.mk fn (xs ++ ds) md dd rnd) cs (hset r (.deferred none) h) nx)
      | _ => .fail
    | .fn f cap args => invokeFn E h f cap args (fun g vs => enter E g vs true (.mk L todo (.mk fn ds md dd rnd) :: cs) h nx) (fun _ _ _ _ _ => .fail)
    | .del t m k => match delM E (kTy E t) m k h nx with
      | some (.mk _ h' nx') => .go (.mk L todo (.mk fn ds md dd rnd) cs h' nx')
      | none => .fail
    | .bi _ _ => .fail
def step (E : Env) (c : Cfg) : Sp :=
  Cfg.rec (motive := fun _ => Sp) (fun L todo fi cs h nx =>
    FI.rec (motive := fun _ => Sp) (fun fn ds md dd rnd =>
      Md.rec (motive := fun _ => Sp)
        (List.rec (motive := fun _ => Sp) (leave E none [] L fi cs h nx) (fun x rest _ => x.run E rest L fi cs h nx) todo)
        (unwind E L todo fi cs h nx) (fun _ => unwind E L todo fi cs h nx) md) fi) c
def back {α β : Type} (f : α → β) (a : α) : β := f a
def allB (f : Cfg → Bool) (l : List Cfg) : Bool :=
  List.rec (motive := fun _ => Bool) true (fun c l ih => List.rec (motive := fun _ => Bool) (back f c) (fun _ _ _ => cnd (f c) ih false) l) l
def run (E : Env) (n : Nat) : Cfg → Bool :=
  Nat.rec (motive := fun _ => Cfg → Bool) (fun _ => false) (fun _ ih c =>
    Sp.rec (motive := fun _ => Bool) (fun c' => back ih c') (fun v => asBool v false fun b => b) (fun l => allB ih l) false (step E c)) n
def runC (E : Env) (n : Nat) : Cfg → Sp :=
  Nat.rec (motive := fun _ => Cfg → Sp) (fun c => .go c) (fun _ ih c =>
    Sp.rec (motive := fun _ => Sp) (fun c' => back ih c') (fun v => .done v) (fun l => .br l) (step E c) (step E c)) n
end
end Go.Ev

namespace Go.Ev
set_option linter.unusedVariables false
/-! ## the heap's tree -/
theorem hget_hset (k : Key) (o : Ob) (h : Hp) : hget k (hset k o h) = o := by
  cases k with | mk a b c d e => simp only [hget, hset, N.mod_eq, N.sel_upd]
theorem hget_hset_ne {k k' : Key} (hne : k ≠ k') (o : Ob) (h : Hp) : hget k' (hset k o h) = hget k' h := by
  cases k with | mk a b c d e => cases k' with | mk a' b' c' d' e' =>
  simp only [hget, hset, N.mod_eq]
  by_cases ha : a = a'
  · subst ha; rw [N.sel_upd]
    by_cases hb : b = b'
    · subst hb; rw [N.sel_upd]
      by_cases hc : c = c'
      · subst hc; rw [N.sel_upd]
        by_cases hd : d = d'
        · subst hd; rw [N.sel_upd]
          by_cases he : e = e'
          · subst he; exact absurd rfl hne
          · rw [N.sel_upd_ne he]
        · rw [N.sel_upd_ne hd]
      · rw [N.sel_upd_ne hc]
    · rw [N.sel_upd_ne hb]
  · rw [N.sel_upd_ne ha]
theorem hget_hp0 (k : Key) : hget k hp0 = .none := by
  cases k with | mk a b c d e => simp only [hget, hp0, N.sel_all]
/-! ## tries -/
theorem cnd_eq {R : Type} (b : Bool) (t e : R) : cnd b t e = if b = true then t else e := by cases b <;> rfl
theorem Tr.get_e {α : Type} (k : Nat) : (Tr.e : Tr α).get k = none := rfl
theorem Tr.get_lf {α : Type} (v : α) (k : Nat) : (Tr.lf v).get k = if k = 0 then some v else none := by
  show cnd (Nat.beq k 0) (some v) none = _
  rw [cnd_eq]; simp only [Nat.beq_eq]
theorem Tr.get_n {α : Type} (l r : Tr α) (k : Nat) : (Tr.n l r).get k = if k % 2 = 0 then l.get (k / 2) else r.get (k / 2) := by
  show cnd (Nat.beq (Nat.mod k 2) 0) (l.get (Nat.div k 2)) (r.get (Nat.div k 2)) = _
  rw [cnd_eq]; simp only [Nat.beq_eq]; rfl
inductive Tr.Wf {α : Type} : Nat → Tr α → Prop where
  | e (d : Nat) : Wf d .e
  | lf (v : α) : Wf 0 (.lf v)
  | n {d : Nat} {l r : Tr α} (hl : Wf d l) (hr : Wf d r) : Wf (d + 1) (.n l r)
theorem Tr.set_zero {α : Type} (t : Tr α) (k : Nat) (v : α) : Tr.set 0 t k v = .lf v := rfl
theorem Tr.set_succ {α : Type} (d : Nat) (t : Tr α) (k : Nat) (v : α) : Tr.set (d + 1) t k v =
    if k % 2 = 0 then (match t with | .n l r => .n (Tr.set d l (k / 2) v) r | _ => .n (Tr.set d .e (k / 2) v) .e)
    else (match t with | .n l r => .n l (Tr.set d r (k / 2) v) | _ => .n .e (Tr.set d .e (k / 2) v)) := by
  show cnd (Nat.beq (Nat.mod k 2) 0) _ _ = _
  rw [cnd_eq]; simp only [Nat.beq_eq]
  cases t <;> rfl
theorem Tr.set_wf {α : Type} : ∀ (d : Nat) (t : Tr α) (k : Nat) (v : α), Wf d t → Wf d (t.set d k v)
  | 0, t, k, v, _ => .lf v
  | d + 1, t, k, v, h => by
    rw [Tr.set_succ]
    cases h with
    | e => split <;> exact .n (by first | exact Tr.set_wf d _ _ _ (.e d) | exact .e d) (by first | exact Tr.set_wf d _ _ _ (.e d) | exact .e d)
    | n hl hr => split
                 · exact .n (Tr.set_wf d _ _ _ hl) hr
                 · exact .n hl (Tr.set_wf d _ _ _ hr)
theorem Tr.get_set {α : Type} : ∀ (d : Nat) (t : Tr α) (k k' : Nat) (v : α), Wf d t → k < 2 ^ d →
    (t.set d k v).get k' = if k' = k then some v else t.get k'
  | 0, t, k, k', v, h, hk => by
    have hk0 : k = 0 := by simpa using hk
    subst hk0
    rw [Tr.set_zero, Tr.get_lf]
    by_cases h' : k' = 0
    · simp [h']
    · simp only [h', if_false]
      cases h with
      | e => rfl
      | lf w => rw [Tr.get_lf, if_neg h']
  | d + 1, t, k, k', v, h, hk => by
    have hk2 : k / 2 < 2 ^ d := by rw [Nat.pow_succ] at hk; omega
    rw [Tr.set_succ]
    by_cases he : k % 2 = 0
    · simp only [he, if_true]
      cases h with
      | e =>
        show (Tr.n _ _).get k' = _
        rw [Tr.get_n, Tr.get_e, Tr.get_set d .e _ _ v (.e d) hk2]
        by_cases he' : k' % 2 = 0
        · simp only [he', if_true, Tr.get_e]
          by_cases hh : k' / 2 = k / 2
          · have : k' = k := by omega
            simp [this]
          · have : k' ≠ k := by omega
            simp [hh, this]
        · have : k' ≠ k := by omega
          simp [he', this, Tr.get_e]
      | n hl hr =>
        show (Tr.n _ _).get k' = _
        rw [Tr.get_n, Tr.get_n, Tr.get_set d _ _ _ v hl hk2]
        by_cases he' : k' % 2 = 0
        · simp only [he', if_true]
          by_cases hh : k' / 2 = k / 2
          · have : k' = k := by omega
            simp [this]
          · have : k' ≠ k := by omega
            simp [hh, this]
        · have : k' ≠ k := by omega
          simp [he', this]
    · simp only [he, if_false]
      cases h with
      | e =>
        show (Tr.n _ _).get k' = _
        rw [Tr.get_n, Tr.get_e, Tr.get_set d .e _ _ v (.e d) hk2]
        by_cases he' : k' % 2 = 0
        · have : k' ≠ k := by omega
          simp [he', this, Tr.get_e]
        · simp only [he', if_false, Tr.get_e]
          by_cases hh : k' / 2 = k / 2
          · have : k' = k := by omega
            simp [this]
          · have : k' ≠ k := by omega
            simp [hh, this]
      | n hl hr =>
        show (Tr.n _ _).get k' = _
        rw [Tr.get_n, Tr.get_n, Tr.get_set d _ _ _ v hr hk2]
        by_cases he' : k' % 2 = 0
        · have : k' ≠ k := by omega
          simp [he', this]
        · simp only [he', if_false]
          by_cases hh : k' / 2 = k / 2
          · have : k' = k := by omega
            simp [this]
          · have : k' ≠ k := by omega
            simp [hh, this]
theorem Tr.lt_of_get {α : Type} : ∀ (d : Nat) (t : Tr α) (k : Nat) (v : α), Wf d t → t.get k = some v → k < 2 ^ d
  | _, .e, k, v, _, hg => by simp [Tr.get_e] at hg
  | _, .lf w, k, v, h, hg => by
    cases h
    rw [Tr.get_lf] at hg
    by_cases h0 : k = 0
    · subst h0; simp
    · simp [h0] at hg
  | _, .n l r, k, v, h, hg => by
    cases h with | @n d _ _ hl hr =>
    rw [Tr.get_n] at hg
    have : k / 2 < 2 ^ d := by
      split at hg
      · exact Tr.lt_of_get d l _ v hl hg
      · exact Tr.lt_of_get d r _ v hr hg
    rw [Nat.pow_succ]; omega
theorem Tr.grow_wf {α : Type} : ∀ (d : Nat) (t : Tr α), Wf d t → Wf (d + 1) t.grow
  | _, .e, _ => .e _
  | _, .lf w, h => by cases h; exact .n (.lf w) (.e 0)
  | _, .n l r, h => by cases h with | @n d _ _ hl hr => exact .n (Tr.grow_wf d l hl) (Tr.grow_wf d r hr)
theorem Tr.get_grow {α : Type} : ∀ (d : Nat) (t : Tr α), Wf d t → ∀ k, t.grow.get k = t.get k
  | _, .e, _, k => rfl
  | _, .lf w, h, k => by
    show (Tr.n (.lf w) .e).get k = _
    rw [Tr.get_n, Tr.get_lf, Tr.get_lf, Tr.get_e]
    by_cases h0 : k = 0
    · simp [h0]
    · by_cases h2 : k % 2 = 0
      · have : k / 2 ≠ 0 := by omega
        simp [h2, this, h0]
      · simp [h2, h0]
  | _, .n l r, h, k => by
    cases h with | @n d _ _ hl hr =>
    show (Tr.n l.grow r.grow).get k = _
    rw [Tr.get_n, Tr.get_n, Tr.get_grow d l hl, Tr.get_grow d r hr]
theorem evens_get {α : Type} : ∀ (l : List α) (k : Nat), (evens l)[k]? = l[2 * k]?
  | [], k => by simp [evens]
  | [a], 0 => by simp [evens]
  | [a], k + 1 => by simp [evens]
  | a :: b :: r, 0 => by simp [evens]
  | a :: b :: r, k + 1 => by
    simp only [evens, List.getElem?_cons_succ]
    rw [evens_get r k, show 2 * (k + 1) = 2 * k + 1 + 1 from by omega]
    rfl
theorem odds_get {α : Type} : ∀ (l : List α) (k : Nat), (odds l)[k]? = l[2 * k + 1]?
  | [], k => by simp [odds]
  | [a], k => by simp [odds]
  | a :: b :: r, 0 => by simp [odds]
  | a :: b :: r, k + 1 => by
    simp only [odds, List.getElem?_cons_succ]
    rw [odds_get r k, show 2 * (k + 1) = 2 * k + 1 + 1 from by omega]
    rfl
theorem evens_length {α : Type} : ∀ (l : List α), (evens l).length = (l.length + 1) / 2
  | [] => by simp [evens]
  | [a] => by simp [evens]
  | a :: b :: r => by simp only [evens, List.length_cons, evens_length r]; omega
theorem odds_length {α : Type} : ∀ (l : List α), (odds l).length = l.length / 2
  | [] => by simp [odds]
  | [a] => by simp [odds]
  | a :: b :: r => by simp only [odds, List.length_cons, odds_length r]; omega
theorem Tr.ofList_wf {α : Type} : ∀ (d : Nat) (l : List α), Wf d (Tr.ofList d l)
  | 0, [] => .e 0
  | d + 1, [] => .e _
  | 0, a :: l => .lf a
  | d + 1, a :: l => .n (Tr.ofList_wf d _) (Tr.ofList_wf d _)
theorem Tr.get_ofList {α : Type} : ∀ (d : Nat) (l : List α), l.length ≤ 2 ^ d → ∀ k, (Tr.ofList d l).get k = l[k]?
  | 0, [], _, k => rfl
  | d + 1, [], _, k => rfl
  | 0, a :: l, h, k => by
    have : l = [] := by
      cases l with
      | nil => rfl
      | cons b r => simp at h
    subst this
    show (Tr.lf a).get k = _
    rw [Tr.get_lf]
    cases k <;> simp
  | d + 1, a :: l, h, k => by
    have hl : (a :: l).length ≤ 2 * 2 ^ d := by rw [Nat.pow_succ] at h; omega
    show (Tr.n _ _).get k = _
    rw [Tr.get_n, Tr.get_ofList d (evens (a :: l)) (by rw [evens_length]; omega), Tr.get_ofList d (odds (a :: l)) (by rw [odds_length]; omega),
      evens_get, odds_get]
    by_cases h2 : k % 2 = 0
    · simp only [h2, if_true]
      rw [show 2 * (k / 2) = k from by omega]
    · simp only [h2, if_false]
      rw [show 2 * (k / 2) + 1 = k from by omega]
theorem Tr.ofList_some {α : Type} : ∀ (d : Nat) (l : List α) (k : Nat) (v : α), (Tr.ofList d l).get k = some v → l[k]? = some v
  | 0, [], k, v, h => by cases h
  | d + 1, [], k, v, h => by cases h
  | 0, a :: l, k, v, h => by
    replace h : (Tr.lf a).get k = some v := h
    rw [Tr.get_lf] at h
    split at h
    · rename_i h0; subst h0; simpa using h
    · cases h
  | d + 1, a :: l, k, v, h => by
    replace h : (Tr.n (Tr.ofList d (evens (a :: l))) (Tr.ofList d (odds (a :: l)))).get k = some v := h
    rw [Tr.get_n] at h
    split at h
    · have := Tr.ofList_some d _ _ _ h
      rw [evens_get] at this
      rw [← this]; congr 1; omega
    · have := Tr.ofList_some d _ _ _ h
      rw [odds_get] at this
      rw [← this]; congr 1; omega
end Go.Ev

namespace Go.Ev
set_option linter.unusedVariables false
set_option linter.unusedSectionVars false
class Val where
  n : Key → Int
  l : Key → List (List Value) := fun _ => []
variable [Val]
noncomputable def nz (k : Key) : Int := if Key.beq k kZ = true then 0 else Val.n k
theorem nz_kZ : nz kZ = 0 := by unfold nz; rw [if_pos (Key.beq_refl _)]
theorem nz_ne {k : Key} (h : Key.beq k kZ = false) : nz k = Val.n k := by unfold nz; rw [if_neg (by rw [h]; decide)]
def rowByte : List Value → UInt8
  | [.int _ n] => UInt8.ofNat n.toNat
  | _ => 0
abbrev Mu := Key → Nat → Option (Nat × Nat × Nat)
def Mu.le (μ ν : Mu) : Prop := ∀ f g x, μ f g = some x → ν f g = some x
theorem Mu.le_refl (μ : Mu) : μ.le μ := fun _ _ _ h => h
theorem Mu.le_trans {μ ν ξ : Mu} (h : μ.le ν) (k : ν.le ξ) : μ.le ξ := fun f g x hx => k f g x (h f g x hx)
def isScalar : Value → Prop
  | .agg _ => False
  | .tuple _ => False
  | _ => True
def FnR (μ : Mu) : AFn → Fn → Prop
  | .fn f, F => F = f
  | .yield l, F => ∃ b s n, μ l 0 = some (b, s, n) ∧ F = .yield b
mutual
def VR (μ : Mu) : AV → Value → Prop
  | .top, _ => True
  | .any, v => isScalar v
  | .ub, v => ∃ b, v = .bool b
  | .bool b, v => v = .bool b
  | .int k n, v => v = .int k n
  | .rng k lo hi, v => ∃ n, v = .int k n ∧ lo ≤ n ∧ n ≤ hi
  | .md k m r, v => ∃ n : Nat, v = .int k (n : Int) ∧ n % m = r ∧ n ≤ kmax k
  | .sl lo hi, v => ∃ a l c, v = .slice a l c ∧ lo ≤ l ∧ l ≤ hi
  | .str s, v => ∃ b : ByteArray, v = .string b ∧ b.data.toList.map UInt8.toNat = s
  | .ptr0, v => v = .pointer none
  | .ptr f g o, v => ∃ b s n, μ f g = some (b, s, n) ∧ s ≤ o ∧ v = .pointer (some ⟨b, o - s, none⟩)
  | .slice0, v => v = .slice none 0 0
  | .slice f g o len cap sz ex, v => ∃ b s n x c, μ f g = some (b, s, n) ∧ v = .slice (some ⟨b, x, none⟩) len c ∧ len ≤ cap ∧ cap ≤ c ∧ (ex = true → c = cap) ∧
      ((s ≤ o ∧ x = o - s ∧ x + c * sz ≤ n) ∨ (len = 0 ∧ c = 0))
  | .map0, v => v = .map none
  | .map m, v => ∃ b s n, μ m 0 = some (b, s, n) ∧ v = .map (some b)
  | .func fn f c, v => ∃ F fs cs, v = .func F fs cs ∧ FnR μ fn F ∧ VRs μ f fs.toList ∧ VRs μ c cs.toList
  | .nilFunc, v => v = .nilFunc
  | .iface t a, v => ∃ x, v = .iface t x ∧ VR μ a x
  | .nilIface, v => v = .nilIface
  | .agg l, v => ∃ cs, v = .agg cs ∧ VRs μ l cs.toList
  | .tuple l, v => ∃ cs, v = .tuple cs ∧ VRs μ l cs.toList
  | .sx k f c lo hi, v => v = .int k (k.wrap (Val.n f + c)) ∧ lo ≤ Val.n f + c ∧ Val.n f + c ≤ hi
  | .le f t neg, v => v = .bool (decide (Val.n f ≤ t) != neg)
  | .eqv f t neg, v => v = .bool (decide (Val.n f = t) != neg)
  | .stx l, v => ∃ b : ByteArray, v = .string b ∧ VRs μ l (b.data.toList.map fun u => .int .u8 (u.toNat : Int))
  | .nsl f g sz k c q d m, v => ∃ base len cp, v = .slice base len cp ∧ len ≤ cp ∧ nz q + d = nz k + c + len ∧ nz q + m ≤ nz k + c + cp ∧
      (cp = 0 ∨ ∃ b s n, ∃ r : Nat, μ f g = some (b, s, n) ∧ nz k + c = r ∧ base = some ⟨b, s + r * sz, none⟩ ∧ s + (r + cp) * sz ≤ n)
  | .nix f g sz k c o, v => ∃ b s n, ∃ r : Nat, μ f g = some (b, s, n) ∧ nz k + c = r ∧ v = .pointer (some ⟨b, s + r * sz + o, none⟩)
  | .stq q, v => ∃ b : ByteArray, v = .string b ∧ b.data.toList = (Val.l q).map rowByte
  | .nv q sl, v => (Val.l q = [[v]] ∧ v ≠ .nilIface) ∧ isScalar v ∧ (sl = true → ∃ base l c, v = .slice base l c ∧ l ≤ 9223372036854775807)
def VRs (μ : Mu) : List AV → List Value → Prop
  | [], vs => vs = []
  | a :: l, vs => ∃ v r, vs = v :: r ∧ VR μ a v ∧ VRs μ l r
end
theorem FnR.mono {μ ν : Mu} (h : μ.le ν) : ∀ {f : AFn} {F : Fn}, FnR μ f F → FnR ν f F
  | .fn f, F, hf => hf
  | .yield l, F, ⟨b, s, n, hm, hF⟩ => ⟨b, s, n, h _ _ _ hm, hF⟩
mutual
theorem VR.mono {μ ν : Mu} (h : μ.le ν) : ∀ (a : AV) (v : Value), VR μ a v → VR ν a v
  | .top, _, _ => by simp only [VR]
  | .any, v, hv => by simpa only [VR] using hv
  | .ub, v, hv => by simpa only [VR] using hv
  | .bool b, v, hv => by simpa only [VR] using hv
  | .int k n, v, hv => by simpa only [VR] using hv
  | .rng k lo hi, v, hv => by simpa only [VR] using hv
  | .md k m r, v, hv => by simpa only [VR] using hv
  | .sl lo hi, v, hv => by simpa only [VR] using hv
  | .str s, v, hv => by simpa only [VR] using hv
  | .ptr0, v, hv => by simpa only [VR] using hv
  | .ptr f g o, v, hv => by
    simp only [VR] at hv ⊢
    obtain ⟨b, s, n, hm, r⟩ := hv
    exact ⟨b, s, n, h _ _ _ hm, r⟩
  | .slice0, v, hv => by simpa only [VR] using hv
  | .slice f g o len cap sz ex, v, hv => by
    simp only [VR] at hv ⊢
    obtain ⟨b, s, n, x, c, hm, r⟩ := hv
    exact ⟨b, s, n, x, c, h _ _ _ hm, r⟩
  | .map0, v, hv => by simpa only [VR] using hv
  | .map m, v, hv => by
    simp only [VR] at hv ⊢
    obtain ⟨b, s, n, hm, r⟩ := hv
    exact ⟨b, s, n, h _ _ _ hm, r⟩
  | .func fn f c, v, hv => by
    simp only [VR] at hv ⊢
    obtain ⟨F, fs, cs, hv, hF, h1, h2⟩ := hv
    exact ⟨F, fs, cs, hv, hF.mono h, VRs.mono h f _ h1, VRs.mono h c _ h2⟩
  | .nilFunc, v, hv => by simpa only [VR] using hv
  | .iface t a, v, hv => by
    simp only [VR] at hv ⊢
    obtain ⟨x, hv, hx⟩ := hv
    exact ⟨x, hv, VR.mono h a x hx⟩
  | .nilIface, v, hv => by simpa only [VR] using hv
  | .agg l, v, hv => by
    simp only [VR] at hv ⊢
    obtain ⟨cs, hv, hx⟩ := hv
    exact ⟨cs, hv, VRs.mono h l _ hx⟩
  | .tuple l, v, hv => by
    simp only [VR] at hv ⊢
    obtain ⟨cs, hv, hx⟩ := hv
    exact ⟨cs, hv, VRs.mono h l _ hx⟩
  | .sx k f c lo hi, v, hv => by simpa only [VR] using hv
  | .le f t neg, v, hv => by simpa only [VR] using hv
  | .eqv f t neg, v, hv => by simpa only [VR] using hv
  | .stx l, v, hv => by
    simp only [VR] at hv ⊢
    obtain ⟨b, hv, hx⟩ := hv
    exact ⟨b, hv, VRs.mono h l _ hx⟩
  | .nsl f g sz k c q d m, v, hv => by
    simp only [VR] at hv ⊢
    obtain ⟨base, len, cp, h1, h2, h3, h4, h5⟩ := hv
    exact ⟨base, len, cp, h1, h2, h3, h4, h5.imp id fun ⟨b, s, n, r, hm, k⟩ => ⟨b, s, n, r, h _ _ _ hm, k⟩⟩
  | .nix f g sz k c o, v, hv => by
    simp only [VR] at hv ⊢
    obtain ⟨b, s, n, r, hm, k⟩ := hv
    exact ⟨b, s, n, r, h _ _ _ hm, k⟩
  | .stq q, v, hv => by simpa only [VR] using hv
  | .nv q sl, v, hv => by simpa only [VR] using hv
theorem VRs.mono {μ ν : Mu} (h : μ.le ν) : ∀ (l : List AV) (vs : List Value), VRs μ l vs → VRs ν l vs
  | [], vs, hv => by simpa only [VRs] using hv
  | a :: l, vs, hv => by
    simp only [VRs] at hv ⊢
    obtain ⟨v, r, e, h1, h2⟩ := hv
    exact ⟨v, r, e, VR.mono h a v h1, VRs.mono h l r h2⟩
end
theorem VRs.nil {μ : Mu} : VRs μ [] [] := by simp only [VRs]
theorem VRs.cons {μ : Mu} {a : AV} {l : List AV} {v : Value} {r : List Value} (h : VR μ a v) (k : VRs μ l r) : VRs μ (a :: l) (v :: r) := by
  simp only [VRs]; exact ⟨v, r, rfl, h, k⟩
theorem VRs.cons_inv {μ : Mu} {a : AV} {l : List AV} {vs : List Value} (h : VRs μ (a :: l) vs) : ∃ v r, vs = v :: r ∧ VR μ a v ∧ VRs μ l r := by
  simpa only [VRs] using h
theorem VRs.nil_inv {μ : Mu} {vs : List Value} (h : VRs μ [] vs) : vs = [] := by simpa only [VRs] using h
theorem VRs.length {μ : Mu} : ∀ {l : List AV} {vs : List Value}, VRs μ l vs → l.length = vs.length
  | [], _, h => by rw [h.nil_inv]; simp
  | a :: l, _, h => by obtain ⟨v, r, rfl, _, h2⟩ := h.cons_inv; simp [VRs.length h2]
theorem VRs.append {μ : Mu} : ∀ {l m : List AV} {vs ws : List Value}, VRs μ l vs → VRs μ m ws → VRs μ (l ++ m) (vs ++ ws)
  | [], _, _, _, h, k => by rw [h.nil_inv]; exact k
  | a :: l, _, _, _, h, k => by obtain ⟨v, r, rfl, h1, h2⟩ := h.cons_inv; exact .cons h1 (VRs.append h2 k)
theorem VRs.get {μ : Mu} : ∀ {l : List AV} {vs : List Value}, VRs μ l vs → ∀ {i : Nat} {a : AV}, l[i]? = some a → ∃ v, vs[i]? = some v ∧ VR μ a v
  | [], _, h, i, a, hi => by simp at hi
  | b :: l, _, h, 0, a, hi => by
    obtain ⟨v, r, rfl, h1, h2⟩ := h.cons_inv
    simp at hi; subst hi; exact ⟨v, rfl, h1⟩
  | b :: l, _, h, i + 1, a, hi => by
    obtain ⟨v, r, rfl, h1, h2⟩ := h.cons_inv
    simp at hi; exact h2.get (by simpa using hi)
theorem VRs.take {μ : Mu} : ∀ {l : List AV} {vs : List Value}, VRs μ l vs → ∀ n, VRs μ (l.take n) (vs.take n)
  | _, _, _, 0 => by simp only [List.take_zero]; exact .nil
  | [], _, h, n + 1 => by rw [h.nil_inv]; simp only [List.take_nil]; exact .nil
  | a :: l, _, h, n + 1 => by
    obtain ⟨v, r, rfl, h1, h2⟩ := h.cons_inv
    simp only [List.take_succ_cons]; exact .cons h1 (h2.take n)
theorem VRs.drop {μ : Mu} : ∀ {l : List AV} {vs : List Value}, VRs μ l vs → ∀ n, VRs μ (l.drop n) (vs.drop n)
  | _, _, h, 0 => by simpa only [List.drop_zero] using h
  | [], _, h, n + 1 => by rw [h.nil_inv]; simp only [List.drop_nil]; exact .nil
  | a :: l, _, h, n + 1 => by
    obtain ⟨v, r, rfl, h1, h2⟩ := h.cons_inv
    simp only [List.drop_succ_cons]; exact h2.drop n
theorem VRs.of_get {μ : Mu} : ∀ {l : List AV} {vs : List Value}, l.length = vs.length → (∀ (i : Nat) (a : AV), l[i]? = some a → ∃ v, vs[i]? = some v ∧ VR μ a v) → VRs μ l vs
  | [], [], _, _ => .nil
  | a :: l, v :: vs, hl, h => .cons (by obtain ⟨w, hw, hr⟩ := h 0 a rfl; simp at hw; exact hw ▸ hr)
      (.of_get (by simpa using hl) fun i b hb => by have := h (i + 1) b (by simpa using hb); simpa using this)
/-! ## memory -/
def RowR (μ : Mu) (cs : Array Value) (s sz r : Nat) (l : List AV) : Prop :=
  s ≤ r * sz ∧ l.length = sz ∧ ∀ j a, l[j]? = some a → ∃ v, cs[r * sz + j - s]? = some v ∧ VR μ a v
def EnR (μ : Mu) (e : En) (x : MapEntry) : Prop := VR μ e.k x.key ∧ VR μ e.v x.val ∧ e.b = x.born
def kv (e : En) : AV × AV := (e.k, e.v)
def EnsR (μ : Mu) : List En → List MapEntry → Prop
  | [], l => l = []
  | e :: es, l => ∃ x r, l = x :: r ∧ EnR μ e x ∧ EnsR μ es r
def slotN (a b c : D) : Nat := a.toNat * 64 + b.toNat * 8 + c.toNat
noncomputable def getT (t : Nat) (tm : Tm) : AV := slot t fun a b c => tget a b c tm
noncomputable def setT (t : Nat) (v : AV) (tm : Tm) : Tm := slot t fun a b c => tset a b c v tm
def NeedR (nd : Nat) (X : Nat → Prop) (μ : Mu) (tm : Tm) (tmps : Array Value) : Prop := ∀ t, inNd nd t = true → ¬ X t → VR μ (getT t tm) (tmps.getD t undef)
def NoX : Nat → Prop := fun _ => False
theorem NeedR.mono {nd : Nat} {X : Nat → Prop} {μ ν : Mu} (h : μ.le ν) {tm : Tm} {tmps : Array Value} (k : NeedR nd X μ tm tmps) : NeedR nd X ν tm tmps := fun t h1 h2 => VR.mono h _ _ (k t h1 h2)
def TmR (μ : Mu) (t : Tm) (tmps : Array Value) : Prop :=
  ∀ a b c, VR μ (tget a b c t) (tmps.getD (slotN a b c) undef)
def DfR (μ : Mu) : Df → Deferred → Prop
  | .fn f cap args, d => ∃ F cs vs, d = { target := .fn F cs, args := vs } ∧ FnR μ f F ∧ VRs μ cap cs.toList ∧ VRs μ args vs.toList
  | .bi b args, d => False
  | .del t m k, d => ∃ ats ty cn xs v w, d = { target := .builtin .delete ats ty cn, args := xs } ∧ xs[0]? = some v ∧ xs[1]? = some w ∧ ats[0]? = some t ∧ VR μ m v ∧ VR μ k w
  | .collected r, d => ∃ b s n, μ r 0 = some (b, s, n) ∧ d = { target := .collected b, args := #[] }
def DfsR (μ : Mu) : List Df → List Deferred → Prop
  | [], l => l = []
  | d :: ds, l => ∃ x r, l = x :: r ∧ DfR μ d x ∧ DfsR μ ds r
def FzOk (g : Nat) (cs : Array Value) (fz : Nat × Nat) : Prop := fz = (0, 0) ∨ (strGen ≤ g ∧ fz = (cs.size, cs.size + 1))
def LstAt (cs : Array Value) (s sz : Nat) (l : List (List Value)) : Prop := ∀ (r : Nat) row, l[r]? = some row → ∀ (j : Nat) v, row[j]? = some v → cs[s + r * sz + j]? = some v
def SfxAt (μ : Mu) (cs : Array Value) (s sz n : Nat) (sfx : List (List AV)) : Prop := ∀ (i : Nat) l, sfx[i]? = some l → ∀ (j : Nat) a, l[j]? = some a → ∃ v, cs[s + (n + i) * sz + j]? = some v ∧ VR μ a v
def LaR (W : World) (v : Value) (sz : Nat) (rows : List (List Value)) : Prop :=
  (∀ row ∈ rows, row.length = sz) ∧ ∃ base cap, v = .slice base rows.length cap ∧ rows.length ≤ cap ∧
    (cap = 0 ∨ ∃ b off, base = some ⟨b, off, none⟩ ∧ ∃ cs e fz, W.heap[b]? = some (.cells cs e fz) ∧ off + cap * sz ≤ cs.size ∧ LstAt cs off sz rows)
def LnOk (μ : Mu) (w : World) (f : Key) (sz : Nat) (q : Key) : Prop := ∀ g v, VR μ (.nsl f g sz kZ 0 q 0 0) v → LaR w v sz (Val.l q)
def lstGen : Nat := 131072
def RlOk : Rl → Prop
  | .mk k q lo hi => lo ≤ nz q - nz k ∧ nz q - nz k ≤ hi
  | .mul k n q lo hi => Val.n q = n * Val.n k ∧ lo ≤ Val.n q ∧ Val.n q ≤ hi
  | .ne k q => nz k ≠ nz q
  | .zero q => 0 ≤ Val.n q ∧ Val.l q = List.replicate (Val.n q).toNat [.int .i64 0]
def RfOk : Rf → Prop
  | .mk q k c l => ∃ r : Nat, ∃ row, nz k + c = r ∧ (Val.l q)[r]? = some row ∧ ∀ μ, VRs μ l row
def UOk (q : Key) : Prop := ∀ row ∈ Val.l q, ∃ n : Nat, row = [.int .u8 (n : Int)] ∧ n < 256
structure FkOk [Fk] : Prop where
  rel : ∀ x ∈ Fk.rel, RlOk x
  rows : ∀ x ∈ Fk.rows, RfOk x
  us : ∀ x ∈ Fk.us, UOk x
def OR (B : Nat) (μ : Mu) (w : World) (f : Key) : Ob → Prop
  | .none => ∀ g, μ f g = none
  | .cells ro gen sz dp ext c => (Tr.Wf dp c ∧ ∀ r, ext ≤ r → c.get r = none) ∧ ((∀ g, gen < g → μ f g = none) ∧ ∀ r l gw, c.get r = some (.mk l gw) → gw ≤ gen) ∧
      ∀ g b s n, μ f g = some (b, s, n) → (ro = false → B ≤ b) ∧ s % sz = 0 ∧ ∃ cs e fz, w.heap[b]? = some (.cells cs e fz) ∧ FzOk g cs fz ∧ cs.size = n ∧
        ∀ r l gw, c.get r = some (.mk l gw) → gw ≤ g → s ≤ r * sz → RowR μ cs s sz r l
  | .map es clock => (∀ g, 0 < g → μ f g = none) ∧ ∀ b s n, μ f 0 = some (b, s, n) → B ≤ b ∧ ∃ es', w.heap[b]? = some (.map es' clock) ∧ EnsR μ es es'.toList
  | .strIter s pos => (∀ g, 0 < g → μ f g = none) ∧ ∀ b s' n, μ f 0 = some (b, s', n) → B ≤ b ∧ s' = 0 ∧ ∃ x : ByteArray, w.heap[b]? = some (.stringIter x pos) ∧ x.data.toList.map UInt8.toNat = s
  | .mapIter m since seen stepped => (∀ g, 0 < g → μ f g = none) ∧ ∀ b s' n, μ f 0 = some (b, s', n) → B ≤ b ∧ s' = 0 ∧
      ∃ m', w.heap[b]? = some (.mapIter m' since seen.toArray stepped) ∧ (match m with
        | none => m' = none
        | some k => ∃ c s n, μ k 0 = some (c, s, n) ∧ m' = some c)
  | .loop st pend fn tm ps a b df x => (∀ g, 0 < g → μ f g = none) ∧ ∀ c s n, μ f 0 = some (c, s, n) → B ≤ c ∧
      ∃ tmps dfb s' n', w.heap[c]? = some (.loop { state := st, pending := pend, fn := fn, tmps := tmps, params := ps.toArray, assign := a, body := b, defers := dfb }) ∧ (NeedR x.nd NoX μ tm tmps ∧ x.n ≤ tmps.size ∧ ∀ t ∈ ps, t < x.n ∧ t < 512) ∧ μ df 0 = some (dfb, s', n')
  | .deferred ds => (∀ g, 0 < g → μ f g = none) ∧ ∀ b s n, μ f 0 = some (b, s, n) → B ≤ b ∧ ∃ ds', w.heap[b]? = some (.deferred ds') ∧ (match ds with
        | none => ds' = none
        | some l => ∃ l', ds' = some l' ∧ DfsR μ l l')
  | .mapu es => (∀ g, 0 < g → μ f g = none) ∧ ∀ b s n, μ f 0 = some (b, s, n) → B ≤ b ∧ ∃ es' clock es0, w.heap[b]? = some (.map es' clock) ∧ EnsR μ es0 es'.toList ∧ (es.map kv).Perm (es0.map kv)
  | .iv lo hi => (∀ g, μ f g = none) ∧ lo ≤ Val.n f ∧ Val.n f ≤ hi
  | .lst ro gen sz q sfx => ((nz q = (Val.l q).length ∧ ∀ row ∈ Val.l q, row.length = sz) ∧ ∀ l ∈ sfx, l.length = sz) ∧ ((∀ g, gen < g → μ f g = none) ∧ (ro = false → gen < strGen)) ∧
      ∀ g b s n, μ f g = some (b, s, n) → ((ro = false → B ≤ b) ∧ (ro = true → lstGen ≤ g)) ∧ ∃ cs e fz, w.heap[b]? = some (.cells cs e fz) ∧ (ro = false → fz = (0, 0)) ∧ cs.size = n ∧ LstAt cs s sz (Val.l q) ∧ (g = gen → SfxAt μ cs s sz (Val.l q).length sfx)
variable [Fk]
structure HR (B : Nat) (μ : Mu) (h : Hp) (w : World) : Prop where
  inj : ∀ f g b s n f' g' s' n', μ f g = some (b, s, n) → μ f' g' = some (b, s', n') → ((g < lstGen ∧ g' < lstGen) ∨ B ≤ b) → f = f' ∧ s = s' ∧ n = n'
  lt : ∀ f g b s n, μ f g = some (b, s, n) → b < w.heap.size
  obj : ∀ f, OR B μ w f (hget f h)
  /-- a block that was a text's bytes is so in each generation -/
  side : ∀ f g g' b s n s' n', μ f g = some (b, s, n) → μ f g' = some (b, s', n') → strGen ≤ g → strGen ≤ g'
  fk : FkOk
  /-- a family's first block begins with its first place -/
  start : ∀ f b s n, μ f 0 = some (b, s, n) → s = 0
structure Kept (W w : World) : Prop where
  os : w.os = W.os
  tape : w.tape = W.tape
  output : w.output = W.output
  size : W.heap.size ≤ w.heap.size
  block : ∀ k, k < W.heap.size → w.heap[k]? = W.heap[k]?
end Go.Ev

namespace Go.Ev
set_option linter.unusedVariables false
set_option linter.unusedSectionVars false
variable [Val] [Fk]
structure EnvOk (E : Env) (P : Program) : Prop where
  prog : E.P = P
  ts : ∀ t i, E.ts.get t = some i → P.info? t = some i
  fs : ∀ f fn, E.fs.get f = some fn → P.funcs[f]? = some fn
  names : ∀ f fn, E.fs.get f = some fn → fn.body.isSome = true → (fn.name == "runtime.NumGoroutine") = false
  mixed : P.follows .mixedOrders = true
/-! ## taking eliminators apart -/
theorem asBool_some {R : Type} {a : AV} {k : Bool → Option R} {r : R} (h : asBool a none k = some r) : ∃ b, a = .bool b ∧ k b = some r := by
  cases a <;> first | exact ⟨_, rfl, h⟩ | cases h
theorem asInt_some {R : Type} {a : AV} {k : IntKind → Int → Option R} {r : R} (h : asInt a none k = some r) : ∃ kk n, a = .int kk n ∧ k kk n = some r := by
  cases a <;> first | exact ⟨_, _, rfl, h⟩ | cases h
theorem asStr_some {R : Type} {a : AV} {k : List Nat → Option R} {r : R} (h : asStr a none k = some r) : ∃ s, a = .str s ∧ k s = some r := by
  cases a <;> first | exact ⟨_, rfl, h⟩ | cases h
theorem asPtr_some {R : Type} {a : AV} {k : Key → Nat → Nat → Option R} {r : R} (h : asPtr a none k = some r) : ∃ f g o, a = .ptr f g o ∧ k f g o = some r := by
  cases a <;> first | exact ⟨_, _, _, rfl, h⟩ | cases h
theorem asSlice_some {R : Type} {a : AV} {k : Key → Nat → Nat → Nat → Nat → Nat → Bool → Option R} {r : R} (h : asSlice a none k = some r) :
    ∃ f g o l c s x, a = .slice f g o l c s x ∧ k f g o l c s x = some r := by
  cases a <;> first | exact ⟨_, _, _, _, _, _, _, rfl, h⟩ | cases h
theorem asMap_some {R : Type} {a : AV} {k : Key → Option R} {r : R} (h : asMap a none k = some r) : ∃ m, a = .map m ∧ k m = some r := by
  cases a <;> first | exact ⟨_, rfl, h⟩ | cases h
theorem asIface_some {R : Type} {a : AV} {k : TypeId → AV → Option R} {r : R} (h : asIface a none k = some r) : ∃ t v, a = .iface t v ∧ k t v = some r := by
  cases a <;> first | exact ⟨_, _, rfl, h⟩ | cases h
theorem asAgg_some {R : Type} {a : AV} {k : List AV → Option R} {r : R} (h : asAgg a none k = some r) : ∃ l, a = .agg l ∧ k l = some r := by
  cases a <;> first | exact ⟨_, rfl, h⟩ | cases h
theorem asTuple_some {R : Type} {a : AV} {k : List AV → Option R} {r : R} (h : asTuple a none k = some r) : ∃ l, a = .tuple l ∧ k l = some r := by
  cases a <;> first | exact ⟨_, rfl, h⟩ | cases h
theorem opt_inv {A R : Type} {o : Option A} {s : A → Option R} {r : R} (h : opt o none s = some r) : ∃ a, o = some a ∧ s a = some r := by
  cases o with
  | none => cases h
  | some a => exact ⟨a, rfl, h⟩
theorem cnd_inv {R : Type} {b : Bool} {t : Option R} {r : R} (h : cnd b t none = some r) : b = true ∧ t = some r := by
  cases b with
  | false => cases h
  | true => exact ⟨rfl, h⟩
theorem cnd_inv' {R : Type} {b : Bool} {t : Option R} {r : R} (h : cnd b none t = some r) : b = false ∧ t = some r := by
  cases b with
  | true => cases h
  | false => exact ⟨rfl, h⟩
theorem AV.some_eq (a : AV) : a.some = Option.some a := by cases a <;> rfl
theorem icase_eq {R : Type} (n : Int) (p q : Nat → R) : icase n p q = match n with | .ofNat a => p a | .negSucc a => q a := by cases n <;> rfl
theorem natF_eq {R : Type} (n : Nat) (k : Nat → R) : natF n k = k n := by cases n <;> rfl
theorem bnot_eq (b : Bool) : bnot b = !b := by cases b <;> rfl
theorem ev_bool_eq {R : Type} (b : Bool) (k : Bool → R) : bool b k = k b := by cases b <;> rfl
theorem idx_some {R : Type} {ix : Opd} {L : Lo} {k : Nat → Option R} {r : R} (h : idx ix L none k = some r) : ∃ kk i, getO ix L = .int kk (.ofNat i) ∧ k i = some r := by
  obtain ⟨kk, n, h1, h2⟩ := asInt_some h
  rw [icase_eq] at h2
  cases n with
  | ofNat i => exact ⟨kk, i, h1, h2⟩
  | negSucc i => cases h2
/-! ## numbers -/
theorem ieq_eq (a b : Int) : ieq a b = decide (a = b) := by
  cases a <;> cases b <;> simp only [ieq, icase_eq] <;> rw [Bool.eq_iff_iff] <;> simp [Nat.beq_eq] <;> omega
theorem ile_eq (a b : Int) : ile a b = decide (a ≤ b) := by
  cases a with
  | ofNat x =>
    cases b with
    | ofNat y => simp only [ile, icase_eq]; rw [Bool.eq_iff_iff]; simp [Nat.ble_eq]
    | negSucc y => simp only [ile, icase_eq]; rw [Bool.eq_iff_iff]; simp; omega
  | negSucc x =>
    cases b with
    | ofNat y => simp only [ile, icase_eq]; rw [Bool.eq_iff_iff]; simp; omega
    | negSucc y => simp only [ile, icase_eq]; rw [Bool.eq_iff_iff]; simp [Nat.ble_eq]; omega
theorem ilt_eq (a b : Int) : ilt a b = decide (a < b) := by
  rw [ilt, bnot_eq, ile_eq, Bool.eq_iff_iff]; simp
theorem keq_eq (a b : IntKind) : keq a b = decide (a = b) := by cases a <;> cases b <;> rfl
theorem keq_true {a b : IntKind} (h : keq a b = true) : a = b := by rw [keq_eq] at h; simpa using h
theorem leq_eq : ∀ (l m : List Nat), leq l m = decide (l = m)
  | [], [] => by simp [leq]
  | [], _ :: _ => by simp [leq]
  | _ :: _, [] => by simp [leq]
  | a :: l, b :: m => by
    show cnd (Nat.beq a b) (leq l m) false = _
    rw [cnd_eq, leq_eq l m, Bool.eq_iff_iff]; simp [Nat.beq_eq]
theorem iadd_eq (a b : Int) : iadd a b = a + b := by
  cases a <;> cases b <;> simp only [iadd, icase_eq] <;> rfl
theorem isub_eq (a b : Int) : isub a b = a - b := by
  cases a with
  | ofNat x =>
    cases b with
    | ofNat y =>
      simp only [isub, icase_eq, cnd_eq, Nat.ble_eq]
      split
      · show ((x - y : Nat) : Int) = _
        simp; omega
      · rfl
    | negSucc y => simp only [isub, icase_eq]; rfl
  | negSucc x => simp only [isub, icase_eq]; rfl
theorem wrap_small (k : IntKind) (a : Nat) (h : a ≤ kmax k) : k.wrap (Int.ofNat a) = Int.ofNat a := by
  cases k <;> simp only [kmax] at h <;> simp only [IntKind.wrap, IntKind.bits, IntKind.signed, Int.ofNat_eq_natCast] <;> simp <;> omega
theorem wrap_i64 {n : Int} (h1 : -9223372036854775808 ≤ n) (h2 : n ≤ 9223372036854775807) : IntKind.wrap .i64 n = n := by
  have e1 : (2 : Int) ^ 64 = 18446744073709551616 := by decide
  have e2 : (2 : Int) ^ 63 = 9223372036854775808 := by decide
  show (if (true && decide (n % (2 ^ 64 : Int) ≥ (2 ^ 63 : Int))) = true then n % (2 ^ 64 : Int) - (2 ^ 64 : Int) else n % (2 ^ 64 : Int)) = n
  rw [e1, e2]
  simp only [Bool.true_and, decide_eq_true_eq]
  split <;> omega
theorem wrap_i64_eq (n : Int) : IntKind.wrap .i64 n = if 9223372036854775808 ≤ n % 18446744073709551616 then n % 18446744073709551616 - 18446744073709551616 else n % 18446744073709551616 := by
  have e1 : (2 : Int) ^ 64 = 18446744073709551616 := by decide
  have e2 : (2 : Int) ^ 63 = 9223372036854775808 := by decide
  show (if (true && decide (n % (2 ^ 64 : Int) ≥ (2 ^ 63 : Int))) = true then n % (2 ^ 64 : Int) - (2 ^ 64 : Int) else n % (2 ^ 64 : Int)) = _
  rw [e1, e2]
  simp only [Bool.true_and, decide_eq_true_eq, ge_iff_le]
theorem wrap_u8_eq (n : Int) : IntKind.wrap .u8 n = n % 256 := by
  have e1 : (2 : Int) ^ 8 = 256 := by decide
  show (if (false && decide (n % (2 ^ 8 : Int) ≥ (2 ^ 7 : Int))) = true then n % (2 ^ 8 : Int) - (2 ^ 8 : Int) else n % (2 ^ 8 : Int)) = _
  rw [e1]
  simp only [Bool.false_and, Bool.false_eq_true, if_false]
theorem wrap_add {k : IntKind} (hk : sxK k = true) (a b : Int) : k.wrap (k.wrap a + b) = k.wrap (a + b) := by
  cases k <;> first | (cases hk; done) | skip
  · simp only [wrap_i64_eq]; omega
  · simp only [wrap_u8_eq]; omega
theorem wrap_u8_i64 (a : Int) : IntKind.wrap .u8 (IntKind.wrap .i64 a) = IntKind.wrap .u8 a := by
  simp only [wrap_i64_eq, wrap_u8_eq]
  split <;> omega
theorem mkInt_eq (k : IntKind) (n : Int) : mkInt k n = .int k (k.wrap n) := by
  cases n with
  | ofNat a =>
    simp only [mkInt, icase_eq, cnd_eq, Nat.ble_eq, natF_eq]
    split
    · rename_i h; rw [wrap_small k a h]
    · rfl
  | negSucc a => simp only [mkInt, icase_eq]
end Go.Ev

namespace Go.Ev
set_option linter.unusedVariables false
set_option linter.unusedSectionVars false
variable [Val] [Fk]
section
variable {E : Env} {P : Program} (hE : EnvOk E P)
include hE
theorem EnvOk.und {t : TypeId} {d : TypeDesc} (h : E.und t = some d) : P.underlying t = some d := by
  unfold Env.und at h
  split at h
  · rename_i i hi
    have h1 := hE.ts _ _ hi
    split at h
    · rename_i nm u hd
      split at h
      · rename_i j hj
        have h2 := hE.ts _ _ hj
        have : some j.desc = some d := h
        unfold Program.underlying
        rw [h1]
        obtain ⟨desc⟩ := i
        simp only at hd
        subst hd
        simpa [h2] using this
      · cases h
    · rename_i hn
      have : some i.desc = some d := h
      unfold Program.underlying
      rw [h1]
      obtain ⟨desc⟩ := i
      simp only at hn this ⊢
      split
      · rename_i heq
        simp only [Option.some.injEq, TypeInfo.mk.injEq] at heq
        exact absurd heq.1 (hn _ _)
      · rename_i heq
        simp only [Option.some.injEq] at heq
        subst heq
        exact this
      · rename_i heq; cases heq
  · cases h
theorem EnvOk.size {t : TypeId} {n : Nat} (h : E.size t = some n) : ∃ i, P.info? t = some i ∧ i.size = n := by
  unfold Env.size at h
  split at h
  · rename_i i hi; exact ⟨i, hE.ts _ _ hi, by simpa using h⟩
  · cases h
theorem EnvOk.runUnd {t : TypeId} {d : TypeDesc} (h : E.und t = some d) (w : World) : (underlying t).run P w = .ok d w := run_underlying (hE.und h) w
theorem EnvOk.runSize {t : TypeId} {n : Nat} (h : E.size t = some n) (w : World) : (sizeOf t).run P w = .ok n w := by
  obtain ⟨i, hi, hn⟩ := hE.size h
  simp [sizeOf, typeInfo, hi, hn]
omit hE in
theorem szA_some {t : TypeId} {n : Nat} {a : Bool} (h : E.szA t = some (n, a)) : ∃ d, E.und t = some d ∧ E.size t = some n ∧ isAggT d = a := by
  unfold Env.szA at h
  split at h
  · rename_i d m h1 h2
    simp only [Option.some.injEq, Prod.mk.injEq] at h
    obtain ⟨rfl, rfl⟩ := h
    exact ⟨d, h1, h2, rfl⟩
  · cases h
theorem EnvOk.runAgg {t : TypeId} {d : TypeDesc} (h : E.und t = some d) (w : World) : (isAgg t).run P w = .ok (isAggT d) w := by
  unfold isAgg
  simp only [Sem.run_bind, hE.runUnd h, Result.andThen_ok]
  cases d <;> rfl
theorem EnvOk.zero {t : TypeId} {z : AV} (h : zeroA E t = some z) : ∃ i v, P.info? t = some i ∧ i.zero = some v ∧ z = ofV v := by
  unfold zeroA at h
  split at h
  · rename_i i hi
    split at h
    · rename_i v hv; exact ⟨i, v, hE.ts _ _ hi, hv, by simpa using h.symm⟩
    · cases h
  · cases h
end
theorem nthA_eq : ∀ (l : List AV) (j : Nat), nthA l j = l[j]?
  | [], j => by simp [nthA]
  | a :: l, 0 => by show a.some = _; rw [AV.some_eq]; rfl
  | a :: l, j + 1 => by show nthA l j = _; rw [nthA_eq l j]; rfl
theorem asCells_some {R : Type} {o : Ob} {k : Bool → Nat → Nat → Nat → Nat → Tr Row → Option R} {r : R} (h : asCells o none k = some r) :
    ∃ ro gen sz dp ext c, o = .cells ro gen sz dp ext c ∧ k ro gen sz dp ext c = some r := by
  cases o <;> first | exact ⟨_, _, _, _, _, _, rfl, h⟩ | cases h
theorem asMapO_some {R : Type} {o : Ob} {k : List En → Nat → Option R} {r : R} (h : asMapO o none k = some r) : ∃ es c, o = .map es c ∧ k es c = some r := by
  cases o <;> first | exact ⟨_, _, rfl, h⟩ | cases h
theorem asIv_some {R : Type} {o : Ob} {k : Int → Int → Option R} {r : R} (h : asIv o none k = some r) : ∃ lo hi, o = .iv lo hi ∧ k lo hi = some r := by
  cases o <;> first | exact ⟨_, _, rfl, h⟩ | cases h
theorem HR.ivOf {B : Nat} {μ : Mu} {h : Hp} {w : World} (hH : HR B μ h w) {f : Key} {lo hi : Int} (ho : hget f h = .iv lo hi) : lo ≤ Val.n f ∧ Val.n f ≤ hi := by
  have := hH.obj f
  rw [ho] at this
  exact this.2
theorem fitK_inv {k : IntKind} {lo hi : Int} (h : fitK k lo hi = true) : (k = .i64 ∧ -9223372036854775808 ≤ lo ∧ hi ≤ 9223372036854775807) ∨ (k = .u8 ∧ 0 ≤ lo ∧ hi ≤ 255) ∨ (k = .u32 ∧ 0 ≤ lo ∧ hi ≤ 4294967295) := by
  unfold fitK at h
  split at h
  · obtain ⟨h1, h2⟩ : ile (-9223372036854775808) lo = true ∧ ile hi 9223372036854775807 = true := by
      cases h1 : ile (-9223372036854775808) lo with
      | false => rw [h1] at h; cases h
      | true => rw [h1] at h; exact ⟨rfl, h⟩
    rw [ile_eq] at h1 h2
    exact .inl ⟨rfl, by simpa using h1, by simpa using h2⟩
  · obtain ⟨h1, h2⟩ : ile 0 lo = true ∧ ile hi 255 = true := by
      cases h1 : ile 0 lo with
      | false => rw [h1] at h; cases h
      | true => rw [h1] at h; exact ⟨rfl, h⟩
    rw [ile_eq] at h1 h2
    exact .inr (.inl ⟨rfl, by simpa using h1, by simpa using h2⟩)
  · obtain ⟨h1, h2⟩ : ile 0 lo = true ∧ ile hi 4294967295 = true := by
      cases h1 : ile 0 lo with
      | false => rw [h1] at h; cases h
      | true => rw [h1] at h; exact ⟨rfl, h⟩
    rw [ile_eq] at h1 h2
    exact .inr (.inr ⟨rfl, by simpa using h1, by simpa using h2⟩)
  · cases h
theorem fitK_wrap {k : IntKind} {lo hi n : Int} (h : fitK k lo hi = true) (h1 : lo ≤ n) (h2 : n ≤ hi) : k.wrap n = n := by
  rcases fitK_inv h with ⟨rfl, h3, h4⟩ | ⟨rfl, h3, h4⟩ | ⟨rfl, h3, h4⟩
  · exact wrap_i64 (by omega) (by omega)
  · obtain ⟨m, rfl⟩ : ∃ m : Nat, n = Int.ofNat m := ⟨n.toNat, by simp; omega⟩
    exact wrap_small .u8 m (by simp only [kmax]; simp at h2; omega)
  · obtain ⟨m, rfl⟩ : ∃ m : Nat, n = Int.ofNat m := ⟨n.toNat, by simp; omega⟩
    exact wrap_small .u32 m (by simp only [kmax]; simp at h2; omega)
theorem start_le {s o sz : Nat} (hs : s % sz = 0) (h : s ≤ o) : s ≤ o / sz * sz := by
  rcases Nat.eq_zero_or_pos sz with h0 | h0
  · subst h0; simp at hs; omega
  · have h1 : s = s / sz * sz := by have := Nat.div_add_mod s sz; rw [hs, Nat.mul_comm] at this; omega
    have h2 : s / sz ≤ o / sz := Nat.div_le_div_right h
    have h3 := Nat.mul_le_mul_right sz h2
    omega
theorem HR.cells {B : Nat} {μ : Mu} {h : Hp} {w : World} (hH : HR B μ h w) {f : Key} {ro : Bool} {gen sz dp ext : Nat} {c : Tr Row}
    (ho : hget f h = .cells ro gen sz dp ext c) : (Tr.Wf dp c ∧ ∀ r, ext ≤ r → c.get r = none) ∧ ((∀ g, gen < g → μ f g = none) ∧ ∀ r l gw, c.get r = some (.mk l gw) → gw ≤ gen) ∧
      ∀ g b s n, μ f g = some (b, s, n) → (ro = false → B ≤ b) ∧ s % sz = 0 ∧ ∃ cs e fz, w.heap[b]? = some (.cells cs e fz) ∧ FzOk g cs fz ∧ cs.size = n ∧
        ∀ r l gw, c.get r = some (.mk l gw) → gw ≤ g → s ≤ r * sz → RowR μ cs s sz r l := by
  have := hH.obj f
  rw [ho] at this
  exact this
theorem cell?_of_block {w : World} {b i : Nat} {cs : Array Value} {e : TypeId} {fz : Nat × Nat} (h : w.heap[b]? = some (.cells cs e fz)) : w.cell? ⟨b, i, none⟩ = cs[i]? := by
  simp [World.cell?, h]
theorem frozen?_of_block {w : World} {b i g : Nat} {cs : Array Value} {e : TypeId} {fz : Nat × Nat} (h : w.heap[b]? = some (.cells cs e fz)) (hf : FzOk g cs fz) (hi : i < cs.size) : w.frozen? ⟨b, i, none⟩ = false := by
  rcases hf with rfl | ⟨_, rfl⟩
  · simp [World.frozen?, h]
  · simp [World.frozen?, h]; omega
theorem getCell_sound {B : Nat} {μ : Mu} {h : Hp} {w : World} (hH : HR B μ h w) {f : Key} {g o b s n : Nat} {a : AV} (hm : μ f g = some (b, s, n)) (hs : s ≤ o)
    (hg : getCell h f g o = some a) : ∃ v, w.cell? ⟨b, o - s, none⟩ = some v ∧ VR μ a v := by
  obtain ⟨ro, gen, sz, dp, ext, c, ho, hg⟩ := asCells_some hg
  obtain ⟨r, hr, hg⟩ := opt_inv hg
  obtain ⟨l, gw⟩ := r
  obtain ⟨hgw, hg⟩ := cnd_inv hg
  rw [nthA_eq] at hg
  obtain ⟨hwf, hgen, hb⟩ := hH.cells ho
  obtain ⟨hB, hs0, cs, e, fz, hheap, hfz, hsz, hrows⟩ := hb g b s n hm
  obtain ⟨h1, h2, h3⟩ := hrows _ _ _ hr (Nat.le_of_ble_eq_true hgw) (start_le hs0 hs)
  obtain ⟨v, hv, hvr⟩ := h3 _ _ hg
  refine ⟨v, ?_, hvr⟩
  rw [cell?_of_block hheap]
  have e1 : Nat.div o sz * sz + Nat.mod o sz = o := Nat.div_add_mod' o sz
  rw [e1] at hv
  exact hv
theorem getRows_sound {μ : Mu} {cs : Array Value} {s sz g : Nat} {c : Tr Row} (hrows : ∀ r l gw, c.get r = some (.mk l gw) → gw ≤ g → s ≤ r * sz → RowR μ cs s sz r l) :
    ∀ (n r : Nat) (ls : List (List AV)), getRows c g n r = some ls → s ≤ r * sz → ls.length = n ∧ ∀ i l, ls[i]? = some l → RowR μ cs s sz (r + i) l
  | 0, r, ls, h, _ => by
    simp only [getRows, Option.some.injEq] at h
    subst h
    exact ⟨rfl, fun i l hi => by simp at hi⟩
  | n + 1, r, ls, h, hs => by
    unfold getRows at h
    split at h
    · rename_i l gw hr
      obtain ⟨hgw, h⟩ := cnd_inv h
      split at h
      · rename_i ls' hls
        simp only [Option.some.injEq] at h
        subst h
        obtain ⟨h1, h2⟩ := getRows_sound hrows n (r + 1) ls' hls (by rw [Nat.add_mul]; omega)
        refine ⟨by simp [h1], fun i l' hi => ?_⟩
        cases i with
        | zero => simp at hi; subst hi; exact hrows _ _ _ hr (Nat.le_of_ble_eq_true hgw) hs
        | succ i => simp at hi; have := h2 i l' hi; rwa [show r + 1 + i = r + (i + 1) from by omega] at this
      · cases h
    · cases h
theorem flat_rows {μ : Mu} {cs : Array Value} {s sz : Nat} : ∀ (ls : List (List AV)) (r : Nat), (∀ i l, ls[i]? = some l → RowR μ cs s sz (r + i) l) →
    (flat ls).length = ls.length * sz ∧ ∀ j a, (flat ls)[j]? = some a → ∃ v, cs[r * sz + j - s]? = some v ∧ VR μ a v
  | [], r, h => ⟨by simp [flat], fun j a hj => by simp [flat] at hj⟩
  | l :: ls, r, h => by
    obtain ⟨h1, h2, h3⟩ := h 0 l rfl
    obtain ⟨i1, i2⟩ := flat_rows ls (r + 1) (fun i l' hi => by have := h (i + 1) l' (by simpa using hi); rwa [show r + (i + 1) = r + 1 + i from by omega] at this)
    refine ⟨by simp only [flat, List.length_append, i1, h2, List.length_cons]; rw [Nat.add_mul]; omega, fun j a hj => ?_⟩
    simp only [flat] at hj
    by_cases hlt : j < l.length
    · rw [List.getElem?_append_left hlt] at hj
      simpa using h3 j a hj
    · rw [List.getElem?_append_right (by omega)] at hj
      obtain ⟨v, hv, hr⟩ := i2 _ _ hj
      refine ⟨v, ?_, hr⟩
      rw [← hv]
      congr 1
      rw [h2] at hlt ⊢
      rw [Nat.add_mul]; omega
theorem getCells_sound {B : Nat} {μ : Mu} {h : Hp} {w : World} (hH : HR B μ h w) {f : Key} {g o b s n k : Nat} {l : List AV} (hm : μ f g = some (b, s, n)) (hs : s ≤ o)
    (hg : getCells h f g o k = some l) : l.length = k ∧ ∃ vs : List Value, VRs μ l vs ∧ ∀ j v, vs[j]? = some v → w.cell? ⟨b, o - s + j, none⟩ = some v := by
  unfold getCells at hg
  by_cases hk : k = 0
  · subst hk
    change some [] = some l at hg
    have : l = [] := by simpa using hg.symm
    subst this
    exact ⟨rfl, [], .nil, fun j v hj => by simp at hj⟩
  have hk' : Nat.beq k 0 = false := by rw [Bool.eq_false_iff]; intro hh; exact hk (Nat.eq_of_beq_eq_true hh)
  rw [hk'] at hg
  change asCells _ _ _ = _ at hg
  obtain ⟨ro, gen, sz, dp, ext, c, ho, hg⟩ := asCells_some hg
  obtain ⟨hwf, hgen, hb⟩ := hH.cells ho
  obtain ⟨hB, hs0, cs, e, fz, hheap, hfz, hsz, hrows⟩ := hb g b s n hm
  have key : l.length = k ∧ ∀ j a, l[j]? = some a → ∃ v, cs[o + j - s]? = some v ∧ VR μ a v := by
    by_cases hin : Nat.ble (Nat.add (Nat.mod o sz) k) sz = true
    · rw [hin] at hg
      change opt _ _ _ = _ at hg
      obtain ⟨⟨l0, gw⟩, hr, hg⟩ := opt_inv hg
      obtain ⟨hgw, hg⟩ := cnd_inv hg
      have hle : o % sz + k ≤ sz := Nat.le_of_ble_eq_true hin
      obtain ⟨h1, h2, h3⟩ := hrows _ _ _ hr (Nat.le_of_ble_eq_true hgw) (start_le hs0 hs)
      have e1 : Nat.div o sz * sz + Nat.mod o sz = o := Nat.div_add_mod' o sz
      have e1' : o / sz * sz + o % sz = o := e1
      by_cases heq : Nat.beq k sz = true
      · rw [heq] at hg
        have : l0 = l := by simpa [cnd_true] using hg
        subst this
        have hks : k = sz := Nat.eq_of_beq_eq_true heq
        have h0 : o % sz = 0 := by omega
        refine ⟨by omega, fun j a hj => ?_⟩
        obtain ⟨v, hv, hvr⟩ := h3 j a hj
        refine ⟨v, ?_, hvr⟩
        rw [← hv]; congr 1
        show o + j - s = o / sz * sz + j - s
        omega
      · have hne : Nat.beq k sz = false := Bool.eq_false_iff.2 heq
        rw [hne] at hg
        have : (l0.drop (o % sz)).take k = l := Option.some.inj hg
        subst this
        refine ⟨by simp; omega, fun j a hj => ?_⟩
        rw [List.getElem?_take] at hj
        split at hj
        · rw [List.getElem?_drop] at hj
          obtain ⟨v, hv, hvr⟩ := h3 _ a hj
          refine ⟨v, ?_, hvr⟩
          rw [← hv]; congr 1
          show o + j - s = o / sz * sz + (o % sz + j) - s
          omega
        · cases hj
    · have hin' : Nat.ble (Nat.add (Nat.mod o sz) k) sz = false := Bool.eq_false_iff.2 hin
      rw [hin'] at hg
      change cnd _ _ _ = _ at hg
      obtain ⟨h0, hg⟩ := cnd_inv hg
      obtain ⟨h0', hg⟩ := cnd_inv hg
      split at hg
      · rename_i ls hls
        have : flat ls = l := by simpa using hg
        subst this
        obtain ⟨g1, g2⟩ := getRows_sound (sz := sz) hrows _ _ _ hls (start_le hs0 hs)
        obtain ⟨f1, f2⟩ := flat_rows ls _ g2
        have z0 : o % sz = 0 := Nat.eq_of_beq_eq_true h0
        have z1 : k % sz = 0 := Nat.eq_of_beq_eq_true h0'
        have e1 : o / sz * sz + o % sz = o := Nat.div_add_mod' o sz
        have e2 : k / sz * sz + k % sz = k := Nat.div_add_mod' k sz
        refine ⟨by rw [f1, g1]; show k / sz * sz = k; omega, fun j a hj => ?_⟩
        obtain ⟨v, hv, hvr⟩ := f2 j a hj
        refine ⟨v, ?_, hvr⟩
        rw [← hv]; congr 1
        show o + j - s = o / sz * sz + j - s
        omega
      · cases hg
  obtain ⟨hlen, hget⟩ := key
  refine ⟨hlen, (List.range k).map (fun j => (cs[o + j - s]?).getD undef), ?_, ?_⟩
  · refine VRs.of_get (by simp [hlen]) fun i a ha => ?_
    obtain ⟨v, hv, hr⟩ := hget i a ha
    have hi : i < k := by
      rcases Nat.lt_or_ge i l.length with h' | h'
      · omega
      · simp [List.getElem?_eq_none h'] at ha
    exact ⟨v, by simp [hi, hv], hr⟩
  · intro j v hj
    rw [List.getElem?_map] at hj
    by_cases hjk : j < k
    · have ha : ∃ a, l[j]? = some a := ⟨l[j]'(by omega), List.getElem?_eq_getElem (by omega)⟩
      obtain ⟨a, ha⟩ := ha
      obtain ⟨u, hu, _⟩ := hget j a ha
      simp [hjk, hu] at hj
      subst hj
      rw [cell?_of_block hheap, show o - s + j = o + j - s from by omega]
      exact hu
    · simp [List.getElem?_eq_none (show (List.range k).length ≤ j from by simp; omega)] at hj
end Go.Ev

namespace Go.Ev
set_option linter.unusedVariables false
set_option linter.unusedSectionVars false
variable [Val] [Fk]
/-! ## named places -/
theorem asNsl_some {R : Type} {a : AV} {k : Key → Nat → Nat → Key → Int → Key → Int → Int → Option R} {e : Option R} {r : R} (h : asNsl a e k = some r) :
    (∃ f g sz i c q d m, a = .nsl f g sz i c q d m ∧ k f g sz i c q d m = some r) ∨ (isNsl a = false ∧ e = some r) := by
  cases a <;> first | exact .inl ⟨_, _, _, _, _, _, _, _, rfl, h⟩ | exact .inr ⟨rfl, h⟩
theorem asNix_some {R : Type} {a : AV} {k : Key → Nat → Nat → Key → Int → Nat → Option R} {e : Option R} {r : R} (h : asNix a e k = some r) :
    (∃ f g sz i c o, a = .nix f g sz i c o ∧ k f g sz i c o = some r) ∨ e = some r := by
  cases a <;> first | exact .inl ⟨_, _, _, _, _, _, rfl, h⟩ | exact .inr h
theorem asLst_some {R : Type} {o : Ob} {k : Bool → Nat → Nat → Key → List (List AV) → Option R} {r : R} (h : asLst o none k = some r) :
    ∃ ro gen sz q sfx, o = .lst ro gen sz q sfx ∧ k ro gen sz q sfx = some r := by
  cases o <;> first | exact ⟨_, _, _, _, _, rfl, h⟩ | cases h
theorem cnd_true_inv {a b : Bool} (h : cnd a b false = true) : a = true ∧ b = true := by
  cases a with
  | false => cases h
  | true => exact ⟨rfl, h⟩
theorem cnd_or_inv {a b : Bool} (h : cnd a true b = true) : a = true ∨ b = true := by
  cases a with
  | false => exact .inr h
  | true => exact .inl rfl
theorem HR.lst {B : Nat} {μ : Mu} {h : Hp} {w : World} (hH : HR B μ h w) {f : Key} {ro : Bool} {gen sz : Nat} {q : Key} {sfx : List (List AV)} (ho : hget f h = .lst ro gen sz q sfx) :
    OR B μ w f (.lst ro gen sz q sfx) := by
  have := hH.obj f
  rw [ho] at this
  exact this
theorem findRl_sound {a b : Key} : ∀ {l : List Rl} {p : Int × Int}, (∀ x ∈ l, RlOk x) → findRl a b l = some p → p.1 ≤ nz b - nz a ∧ nz b - nz a ≤ p.2
  | [], p, _, h => by cases h
  | .mk k q lo hi :: l, p, hl, h => by
    unfold findRl at h
    cases h1 : cnd (Key.beq k a) (Key.beq q b) false with
    | true =>
      rw [h1] at h
      obtain ⟨e1, e2⟩ := cnd_true_inv h1
      cases h
      have := hl _ (List.mem_cons_self ..)
      rw [← Key.beq_eq e1, ← Key.beq_eq e2]
      exact this
    | false =>
      rw [h1] at h
      cases h2 : cnd (Key.beq k b) (Key.beq q a) false with
      | true =>
        rw [h2] at h
        obtain ⟨e1, e2⟩ := cnd_true_inv h2
        cases h
        have : lo ≤ nz q - nz k ∧ nz q - nz k ≤ hi := hl _ (List.mem_cons_self ..)
        rw [← Key.beq_eq e1, ← Key.beq_eq e2]
        simp only [isub_eq]
        omega
      | false =>
        rw [h2] at h
        exact findRl_sound (fun x hx => hl x (List.mem_cons_of_mem _ hx)) h
  | .mul _ _ _ _ _ :: l, p, hl, h => findRl_sound (l := l) (fun x hx => hl x (List.mem_cons_of_mem _ hx)) h
  | .ne _ _ :: l, p, hl, h => findRl_sound (l := l) (fun x hx => hl x (List.mem_cons_of_mem _ hx)) h
  | .zero _ :: l, p, hl, h => findRl_sound (l := l) (fun x hx => hl x (List.mem_cons_of_mem _ hx)) h
theorem isZl_sound {q : Key} : ∀ {l : List Rl}, (∀ x ∈ l, RlOk x) → isZl q l = true → 0 ≤ Val.n q ∧ Val.l q = List.replicate (Val.n q).toNat [.int .i64 0]
  | [], _, h => by cases h
  | .mk _ _ _ _ :: l, hl, h => isZl_sound (l := l) (fun x hx => hl x (List.mem_cons_of_mem _ hx)) h
  | .mul _ _ _ _ _ :: l, hl, h => isZl_sound (l := l) (fun x hx => hl x (List.mem_cons_of_mem _ hx)) h
  | .ne _ _ :: l, hl, h => isZl_sound (l := l) (fun x hx => hl x (List.mem_cons_of_mem _ hx)) h
  | .zero k :: l, hl, h => by
    have h0 : 0 ≤ Val.n k ∧ Val.l k = List.replicate (Val.n k).toNat [.int .i64 0] := hl _ (List.mem_cons_self ..)
    unfold isZl at h
    cases h1 : Key.beq k q with
    | true => rw [← Key.beq_eq h1]; exact h0
    | false => rw [h1] at h; exact isZl_sound (fun x hx => hl x (List.mem_cons_of_mem _ hx)) h
theorem findNe_sound {a b : Key} : ∀ {l : List Rl}, (∀ x ∈ l, RlOk x) → findNe a b l = true → nz a ≠ nz b
  | [], _, h => by cases h
  | .mk _ _ _ _ :: l, hl, h => findNe_sound (l := l) (fun x hx => hl x (List.mem_cons_of_mem _ hx)) h
  | .mul _ _ _ _ _ :: l, hl, h => findNe_sound (l := l) (fun x hx => hl x (List.mem_cons_of_mem _ hx)) h
  | .zero _ :: l, hl, h => findNe_sound (l := l) (fun x hx => hl x (List.mem_cons_of_mem _ hx)) h
  | .ne k q :: l, hl, h => by
    have h0 : nz k ≠ nz q := hl _ (List.mem_cons_self ..)
    unfold findNe at h
    cases h1 : cnd (Key.beq k a) (Key.beq q b) false with
    | true =>
      obtain ⟨e1, e2⟩ := cnd_true_inv h1
      rw [← Key.beq_eq e1, ← Key.beq_eq e2]; exact h0
    | false =>
      rw [h1] at h
      cases h2 : cnd (Key.beq k b) (Key.beq q a) false with
      | true =>
        obtain ⟨e1, e2⟩ := cnd_true_inv h2
        rw [← Key.beq_eq e1, ← Key.beq_eq e2]; exact fun e => h0 e.symm
      | false => rw [h2] at h; exact findNe_sound (fun x hx => hl x (List.mem_cons_of_mem _ hx)) h
theorem findMul_sound {a : Key} {m : Int} {μ : Mu} : ∀ {l : List Rl} {r : AV}, (∀ x ∈ l, RlOk x) → findMul a m l = some r → VR μ r (.int .i64 (m * Val.n a)) ∧ IntKind.wrap .i64 (m * Val.n a) = m * Val.n a
  | [], r, _, h => by cases h
  | .mk _ _ _ _ :: l, r, hl, h => findMul_sound (l := l) (fun x hx => hl x (List.mem_cons_of_mem _ hx)) h
  | .ne _ _ :: l, r, hl, h => findMul_sound (l := l) (fun x hx => hl x (List.mem_cons_of_mem _ hx)) h
  | .zero _ :: l, r, hl, h => findMul_sound (l := l) (fun x hx => hl x (List.mem_cons_of_mem _ hx)) h
  | .mul k n q lo hi :: l, r, hl, h => by
    unfold findMul at h
    cases h1 : cnd (Key.beq k a) (ieq n m) false with
    | true =>
      rw [h1] at h
      obtain ⟨e1, e2⟩ := cnd_true_inv h1
      obtain ⟨h3, h⟩ := cnd_inv (show cnd (fitK .i64 lo hi) (some (AV.sx .i64 q 0 lo hi)) none = some r from h)
      cases h
      rw [ieq_eq] at e2
      have e2 := of_decide_eq_true e2
      have e1 := Key.beq_eq e1
      subst e1 e2
      obtain ⟨k1, k2, k3⟩ := hl _ (List.mem_cons_self ..)
      have hw := fitK_wrap (k := .i64) h3 k2 k3
      refine ⟨?_, by rw [← k1]; exact hw⟩
      simp only [VR, Int.add_zero]
      exact ⟨by rw [hw, k1], k2, k3⟩
    | false =>
      rw [h1] at h
      exact findMul_sound (l := l) (fun x hx => hl x (List.mem_cons_of_mem _ hx)) h
theorem relOf_sound (hF : FkOk) {a b : Key} {p : Int × Int} (h : relOf a b = some p) : p.1 ≤ nz b - nz a ∧ nz b - nz a ≤ p.2 := findRl_sound hF.rel h
theorem leX_sound (hF : FkOk) {a b : Key} {c d : Int} (h : leX a c b d = true) : nz a + c ≤ nz b + d := by
  unfold leX at h
  cases h1 : Key.beq a b with
  | true =>
    rw [h1] at h
    have h : ile c d = true := h
    rw [ile_eq] at h
    rw [Key.beq_eq h1]
    have := of_decide_eq_true h
    omega
  | false =>
    rw [h1] at h
    cases hr : relOf a b with
    | none => rw [hr] at h; cases h
    | some p =>
      rw [hr] at h
      have h : ile c (iadd p.1 d) = true := h
      rw [ile_eq, iadd_eq] at h
      have := of_decide_eq_true h
      have := relOf_sound hF hr
      omega
theorem disX_sound (hF : FkOk) {a b : Key} {c d n : Int} (h : disX a c b d = some n) : nz b + d = nz a + c + n := by
  unfold disX at h
  cases h1 : Key.beq a b with
  | true =>
    rw [h1] at h
    have h : some (isub d c) = some n := h
    rw [isub_eq] at h
    rw [Key.beq_eq h1]
    cases h
    omega
  | false =>
    rw [h1] at h
    obtain ⟨p, hr, h⟩ := opt_inv (show opt (relOf a b) none _ = some n from h)
    obtain ⟨h2, h⟩ := cnd_inv h
    rw [ieq_eq] at h2
    have h2 := of_decide_eq_true h2
    rw [isub_eq, iadd_eq] at h
    cases h
    have := relOf_sound hF hr
    omega
theorem at0_sound {k : Key} {c : Int} (h : at0 k c = true) : k = kZ ∧ c = 0 ∧ nz k + c = 0 := by
  obtain ⟨h1, h2⟩ := cnd_true_inv h
  rw [ieq_eq] at h2
  have h1 := Key.beq_eq h1
  have h2 := of_decide_eq_true h2
  subst h1 h2
  exact ⟨rfl, rfl, by rw [nz_kZ]; rfl⟩
theorem exA_sound {μ : Mu} {R : Type} {a : AV} {v : Value} {k : Key → Int → Option R} {r : R} (hv : VR μ a v) (h : exA a none k = some r) : ∃ f c, v = .int .i64 (nz f + c) ∧ k f c = some r := by
  unfold exA at h
  split at h
  · rename_i n
    simp only [VR] at hv
    exact ⟨kZ, n, by rw [nz_kZ, hv, Int.zero_add], h⟩
  · rename_i f c lo hi
    simp only [VR] at hv
    obtain ⟨rfl, h1, h2⟩ := hv
    obtain ⟨h3, h⟩ := cnd_inv h
    obtain ⟨h4, h⟩ := cnd_inv' h
    refine ⟨f, c, ?_, h⟩
    rw [fitK_wrap h3 h1 h2, nz_ne h4]
  · cases h
theorem findRf_sound {q k : Key} {c : Int} : ∀ {l : List Rf} {r : List AV}, (∀ x ∈ l, RfOk x) → findRf q k c l = some r → RfOk (.mk q k c r)
  | [], r, _, h => by cases h
  | .mk q' k' c' r' :: l, r, hl, h => by
    unfold findRf at h
    cases h1 : cnd (Key.beq q q') (cnd (Key.beq k k') (ieq c c') false) false with
    | true =>
      rw [h1] at h
      cases h
      obtain ⟨e1, e2⟩ := cnd_true_inv h1
      obtain ⟨e2, e3⟩ := cnd_true_inv e2
      rw [ieq_eq] at e3
      rw [Key.beq_eq e1, Key.beq_eq e2, of_decide_eq_true e3]
      exact hl _ (List.mem_cons_self ..)
    | false =>
      rw [h1] at h
      exact findRf_sound (fun x hx => hl x (List.mem_cons_of_mem _ hx)) h
theorem factRow_sound (hF : FkOk) {q k : Key} {c : Int} {l : List AV} (h : factRow q k c = some l) : RfOk (.mk q k c l) := findRf_sound hF.rows h
theorem isU_sound (hF : FkOk) {q : Key} (h : isU q = true) : UOk q := by
  have key : ∀ l : List Key, (List.rec (motive := fun _ => Bool) false (fun a _ ih => cnd (Key.beq q a) true ih) l : Bool) = true → q ∈ l := by
    intro l
    induction l with
    | nil => intro h; cases h
    | cons a l ih =>
      intro h
      rcases cnd_or_inv h with h | h
      · rw [Key.beq_eq h]; exact List.mem_cons_self ..
      · exact List.mem_cons_of_mem _ (ih h)
  exact hF.us _ (key _ h)
theorem rowN_sound {B : Nat} {μ : Mu} {h : Hp} {w : World} (hH : HR B μ h w) {f : Key} {g sz b s n r : Nat} {k : Key} {c : Int} {l : List AV} (hm : μ f g = some (b, s, n)) (hr : nz k + c = (r : Int))
    (hrow : rowN h f g sz k c = some l) : l.length = sz ∧ ∃ cs e fz, w.heap[b]? = some (.cells cs e fz) ∧ cs.size = n ∧ ∀ j a, l[j]? = some a → ∃ v, cs[s + r * sz + j]? = some v ∧ VR μ a v := by
  replace hrow := asLst_some hrow
  obtain ⟨ro, gen, z, q, sfx, ho, hrow⟩ := hrow
  replace hrow := cnd_inv hrow
  obtain ⟨hz, hrow⟩ := hrow
  obtain rfl := Nat.eq_of_beq_eq_true hz
  obtain ⟨⟨⟨k0, k1⟩, k2⟩, _, k3⟩ := hH.lst ho
  obtain ⟨_, cs, e, fz, hb, _, hsz, hl, hs⟩ := k3 g b s n hm
  have fact : factRow q k c = some l → l.length = z ∧ ∃ cs e fz, w.heap[b]? = some (.cells cs e fz) ∧ cs.size = n ∧ ∀ j a, l[j]? = some a → ∃ v, cs[s + r * z + j]? = some v ∧ VR μ a v := by
    intro hf
    obtain ⟨r', row, e1, e2, e3⟩ := factRow_sound hH.fk hf
    obtain rfl : r = r' := by omega
    have hrl := k1 row (List.mem_of_getElem? e2)
    refine ⟨by rw [(e3 μ).length, hrl], cs, e, fz, hb, hsz, fun j a hj => ?_⟩
    obtain ⟨v, h1, h2⟩ := (e3 μ).get hj
    exact ⟨v, hl r row e2 j v h1, h2⟩
  cases hkq : Key.beq k q with
  | false => rw [hkq] at hrow; exact fact hrow
  | true =>
    rw [hkq] at hrow
    have hkq := Key.beq_eq hkq
    subst hkq
    simp only [cnd_true, icase_eq] at hrow
    split at hrow
    · rename_i i
      replace hrow := cnd_inv hrow
      obtain ⟨hg, hrow⟩ := hrow
      have hg := Nat.eq_of_beq_eq_true hg
      refine ⟨k2 l (List.mem_of_getElem? hrow), cs, e, fz, hb, hsz, fun j a hj => ?_⟩
      obtain ⟨v, h1, h2⟩ := hs hg i l hrow j a hj
      refine ⟨v, ?_, h2⟩
      have : r = (Val.l k).length + i := by
        rw [k0] at hr
        simp only [Int.ofNat_eq_natCast] at hr
        omega
      rw [this]; exact h1
    · exact fact hrow
theorem rowsN_sound {B : Nat} {μ : Mu} {h : Hp} {w : World} (hH : HR B μ h w) {f : Key} {g sz b s n : Nat} {k : Key} (hm : μ f g = some (b, s, n)) :
    ∀ (m : Nat) (c : Int) (r : Nat) (ls : List (List AV)), nz k + c = (r : Int) → rowsN h f g sz k c m = some ls → ls.length = m ∧ (∀ l ∈ ls, l.length = sz) ∧
      ∀ i l, ls[i]? = some l → ∃ cs e fz, w.heap[b]? = some (.cells cs e fz) ∧ cs.size = n ∧ ∀ j a, l[j]? = some a → ∃ v, cs[s + (r + i) * sz + j]? = some v ∧ VR μ a v
  | 0, c, r, ls, hr, hh => by cases hh; exact ⟨rfl, by simp, fun i l hi => by simp at hi⟩
  | m + 1, c, r, ls, hr, hh => by
    unfold rowsN at hh
    split at hh
    · rename_i l ls' h1 h2
      cases hh
      obtain ⟨e1, e2⟩ := rowN_sound hH hm hr h1
      rw [iadd_eq] at h2
      obtain ⟨e3, e4, e5⟩ := rowsN_sound hH hm m (c + 1) (r + 1) ls' (by omega) h2
      refine ⟨by simp [e3], fun l' hl' => ?_, fun i l' hi => ?_⟩
      · rcases List.mem_cons.1 hl' with rfl | hl'
        · exact e1
        · exact e4 l' hl'
      · cases i with
        | zero => simp at hi; subst hi; exact e2
        | succ i => simp at hi; have := e5 i l' hi; rwa [show r + 1 + i = r + (i + 1) from by omega] at this
    · cases hh
theorem vals_of' {μ : Mu} {cs : Array Value} : ∀ (l : List AV) (x : Nat), (∀ j a, l[j]? = some a → ∃ v, cs[x + j]? = some v ∧ VR μ a v) → ∃ vs : List Value, VRs μ l vs ∧ ∀ j v, vs[j]? = some v → cs[x + j]? = some v
  | [], x, h => ⟨[], .nil, fun j v hj => by simp at hj⟩
  | a :: l, x, h => by
    obtain ⟨v, h1, h2⟩ := h 0 a rfl
    obtain ⟨vs, h3, h4⟩ := vals_of' l (x + 1) (fun j b hj => by have := h (j + 1) b (by simpa using hj); rwa [show x + (j + 1) = x + 1 + j by omega] at this)
    refine ⟨v :: vs, .cons h2 h3, fun j u hj => ?_⟩
    cases j with
    | zero => simp at hj; subst hj; exact h1
    | succ j => have := h4 j u (by simpa using hj); rwa [show x + (j + 1) = x + 1 + j by omega]
end Go.Ev
