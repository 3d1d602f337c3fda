/- ShrinkRefuses: the law, up to where it looks at what came in. -/
import Derived.Test.YtdhfgfdpncmopaaGreatDoorS1
import Derived.KernelRfl
set_option warn.classDefReducibility false
set_option linter.unusedVariables false
set_option linter.unusedSectionVars false
set_option linter.unusedSimpArgs false
open Go Go.Ev Go.Proofs
namespace Go.Proofs.YtdhfgfdpncmopaaGreatDoor
namespace Shrink
noncomputable section
abbrev mn : Int := -9223372036854775808
abbrev mx : Int := 9223372036854775807
def kM : Key := (.mk .d0 .d0 .d1 .d4 .d4)
def kT : Key := (.mk .d0 .d0 .d1 .d4 .d5)
def kK : Key := (.mk .d0 .d0 .d1 .d4 .d6)
def kR : Key := (.mk .d0 .d0 .d1 .d5 .d6)
def la0z0 : AV := (.agg [(.sx .i64 (.mk .d0 .d0 .d1 .d4 .d6) (.ofNat 0) (.negSucc 9223372036854775807) (.ofNat 9223372036854775807)), (.sx .i64 (.mk .d0 .d0 .d1 .d4 .d5) (.ofNat 0) (.negSucc 9223372036854775807) (.ofNat 9223372036854775807))])
def la0z1 : Ob := (.cells true 0 1 4 12 (.n (.n (.n (.n (.lf (.mk [(I 0)] 0)) (.lf (.mk [(I 15)] 0))) (.n (.lf (.mk [(I 11)] 0)) .e)) (.n (.n (.lf (.mk [(I 0)] 0)) (.lf (.mk [(I 17)] 0))) (.n (.lf (.mk [(I 13)] 0)) .e))) (.n (.n (.n (.lf (.mk [(I 0)] 0)) (.lf (.mk [(I 16)] 0))) (.n (.lf (.mk [(I 12)] 0)) .e)) (.n (.n (.lf (.mk [(I 10)] 0)) (.lf (.mk [(I 18)] 0))) (.n (.lf (.mk [(I 14)] 0)) .e)))))
def la0z2 : Ob := (.cells true 0 2 6 35 (.n (.n (.n (.n (.n (.n (.lf (.mk [(I 0), (I 0)] 0)) (.lf (.mk [(I 0), (I 0)] 0))) (.n (.lf (.mk [(I 2), (I 1)] 0)) .e)) (.n (.n (.lf (.mk [(I 1), (I 1)] 0)) .e) (.n (.lf (.mk [(I 0), (I 0)] 0)) .e))) (.n (.n (.n (.lf (.mk [(I 1), (I 1)] 0)) .e) (.n (.lf (.mk [(I 1), (I 0)] 0)) .e)) (.n (.n (.lf (.mk [(I 2), (I 1)] 0)) .e) (.n (.lf (.mk [(I 0), (I 0)] 0)) .e)))) (.n (.n (.n (.n (.lf (.mk [(I 0), (I 1)] 0)) (.lf (.mk [(I 0), (I 0)] 0))) (.n (.lf (.mk [(I 2), (I 1)] 0)) .e)) (.n (.n (.lf (.mk [(I 2), (I 1)] 0)) .e) (.n (.lf (.mk [(I 0), (I 0)] 0)) .e))) (.n (.n (.n (.lf (.mk [(I 1), (I 0)] 0)) .e) (.n (.lf (.mk [(I 1), (I 1)] 0)) .e)) (.n (.n (.lf (.mk [(I 2), (I 1)] 0)) .e) (.n (.lf (.mk [(I 0), (I 1)] 0)) .e))))) (.n (.n (.n (.n (.n (.lf (.mk [(I 0), (I 1)] 0)) (.lf (.mk [(I 1), (I 0)] 0))) (.n (.lf (.mk [(I 2), (I 1)] 0)) .e)) (.n (.n (.lf (.mk [(I 1), (I 1)] 0)) .e) (.n (.lf (.mk [(I 0), (I 0)] 0)) .e))) (.n (.n (.n (.lf (.mk [(I 1), (I 0)] 0)) .e) (.n (.lf (.mk [(I 1), (I 0)] 0)) .e)) (.n (.n (.lf (.mk [(I 2), (I 1)] 0)) .e) (.n (.lf (.mk [(I 1), (I 0)] 0)) .e)))) (.n (.n (.n (.n (.lf (.mk [(I 0), (I 1)] 0)) .e) (.n (.lf (.mk [(I 0), (I 0)] 0)) .e)) (.n (.n (.lf (.mk [(I 2), (I 1)] 0)) .e) (.n (.lf (.mk [(I 0), (I 0)] 0)) .e))) (.n (.n (.n (.lf (.mk [(I 2), (I 0)] 0)) .e) (.n (.lf (.mk [(I 0), (I 0)] 0)) .e)) (.n (.n (.lf (.mk [(I 2), (I 1)] 0)) .e) (.n (.lf (.mk [(I 0), (I 0)] 0)) .e)))))))
def la0z3 : Ob := (.cells true 0 2 6 35 (.n (.n (.n (.n (.n (.n (.lf (.mk [(.str []), (I 0)] 0)) (.lf (.mk [(.str [106, 111, 105, 110]), (I 0)] 0))) (.n (.lf (.mk [(.str [109, 117, 108]), (I 0)] 0)) .e)) (.n (.n (.lf (.mk [(.str [110, 101, 103]), (I 0)] 0)) .e) (.n (.lf (.mk [(.str [108, 111, 99, 107]), (I 1)] 0)) .e))) (.n (.n (.n (.lf (.mk [(.str [99, 101, 108, 108]), (I 1)] 0)) .e) (.n (.lf (.mk [(.str [106, 117, 109, 112, 122]), (I 1)] 0)) .e)) (.n (.n (.lf (.mk [(.str [108, 116]), (I 0)] 0)) .e) (.n (.lf (.mk [(.str [97, 108, 108]), (I 1)] 0)) .e)))) (.n (.n (.n (.n (.lf (.mk [(.str [118, 97, 114]), (I 1)] 0)) (.lf (.mk [(.str [101, 110, 100]), (I 0)] 0))) (.n (.lf (.mk [(.str [109, 111, 100]), (I 0)] 0)) .e)) (.n (.n (.lf (.mk [(.str [101, 113]), (I 0)] 0)) .e) (.n (.lf (.mk [(.str [119, 97, 105, 116]), (I 2)] 0)) .e))) (.n (.n (.n (.lf (.mk [(.str [115, 101, 116, 108, 111, 99, 97, 108]), (I 1)] 0)) .e) (.n (.lf (.mk [(.str [98, 111, 111, 108]), (I 0)] 0)) .e)) (.n (.n (.lf (.mk [(.str [97, 100, 100]), (I 0)] 0)) .e) (.n (.lf (.mk [(.str [114, 101, 99, 118]), (I 1)] 0)) .e))))) (.n (.n (.n (.n (.n (.lf (.mk [(.str [112, 117, 115, 104]), (I 3)] 0)) (.lf (.mk [(.str [112, 114, 105, 110, 116]), (I 0)] 0))) (.n (.lf (.mk [(.str [100, 105, 118]), (I 0)] 0)) .e)) (.n (.n (.lf (.mk [(.str [110, 111, 116]), (I 0)] 0)) .e) (.n (.lf (.mk [(.str [117, 110, 108, 111, 99, 107]), (I 1)] 0)) .e))) (.n (.n (.n (.lf (.mk [(.str [115, 101, 116, 118, 97, 114]), (I 1)] 0)) .e) (.n (.lf (.mk [(.str [106, 117, 109, 112, 110, 122]), (I 1)] 0)) .e)) (.n (.n (.lf (.mk [(.str [108, 101]), (I 0)] 0)) .e) (.n (.lf (.mk [(.str [115, 101, 110, 100]), (I 1)] 0)) .e)))) (.n (.n (.n (.n (.lf (.mk [(.str [108, 111, 99, 97, 108]), (I 1)] 0)) .e) (.n (.lf (.mk [(.str [106, 117, 109, 112]), (I 1)] 0)) .e)) (.n (.n (.lf (.mk [(.str [110, 101]), (I 0)] 0)) .e) (.n (.lf (.mk [(.str [115, 105, 103, 110, 97, 108]), (I 1)] 0)) .e))) (.n (.n (.n (.lf (.mk [(.str [115, 101, 116, 99, 101, 108, 108]), (I 1)] 0)) .e) (.n (.lf (.mk [(.str [109, 97, 114, 107]), (I 1)] 0)) .e)) (.n (.n (.lf (.mk [(.str [115, 117, 98]), (I 0)] 0)) .e) (.n (.lf (.mk [(.str [115, 112, 97, 119, 110]), (I 1)] 0)) .e)))))))
def la0z4 : Ob := (rowOf [(.sx .i64 (.mk .d0 .d0 .d1 .d4 .d6) (.ofNat 0) (.negSucc 9223372036854775807) (.ofNat 9223372036854775807)), (.sx .i64 (.mk .d0 .d0 .d1 .d4 .d5) (.ofNat 0) (.negSucc 9223372036854775807) (.ofNat 9223372036854775807))])
def la0z5 : Ob := (rowOf [(I 15), (I 1), (I 15), (.str []), (.str []), (I 1), (I 1), (.str []), (I 0), (.bool false), (I 0), .slice0, (I 0), (I 0), (.str []), (I 0), (.bool false), (I 0), .slice0, .slice0, .slice0, (I 0), (I 0), (I 0), (.bool false)])
def la0z6 : Ob := (rowOf [.slice0, .slice0, (I 0), (I 0), .slice0, (.slice (.mk .d0 .d0 .d4 .d4 .d4) 0 0 1 1 3 false), (I 0), (I 1), .slice0, .slice0, .slice0, .slice0, .slice0])
def la0z7 : N (N (N Ob)) := (.mk (.mk (.mk la0z1 la0z2 la0z3 .none .none .none .none .none) O1 O1 O1 O1 O1 O1 O1) (.mk O1 O1 O1 O1 (.mk .none .none .none .none (.iv (.ofNat 0) (.ofNat 70)) (.iv (.negSucc 9223372036854775807) (.ofNat 9223372036854775807)) (.iv (.negSucc 9223372036854775807) (.ofNat 9223372036854775807)) .none) (.mk .none .none .none .none .none .none la0z4 (rowOf [(.bool false)])) O1 O1) O2 O2 (.mk O1 O1 O1 O1 (.mk .none .none .none la0z5 (rowOf [(.str [109, 97, 105, 110]), (I 0), (.slice (.mk .d0 .d0 .d4 .d4 .d3) 0 0 1 1 25 false)]) .none .none la0z6) O1 O1 O1) O2 O2 O2)
def lac0 : Cfg := .mk (.mk (.mk (.mk (.mk (.sx .i64 (.mk .d0 .d0 .d1 .d4 .d4) (.ofNat 0) (.negSucc 9223372036854775807) (.ofNat 9223372036854775807)) .top .top (.ptr (.mk .d0 .d0 .d1 .d5 .d6) 0 0) (.ptr (.mk .d0 .d0 .d1 .d5 .d7) 0 0) (.ptr (.mk .d0 .d0 .d4 .d4 .d7) 0 0) (.bool true) .top) T1 T1 T1 T1 T1 T1 T1) T2 T2 T2 T2 T2 T2 T2) (.bool true) (.ptr (.mk .d0 .d0 .d4 .d4 .d7) 0 0) (.bool true)) (dropC 4 (bodyL E1 3)) (.mk 3 [] .run false .none) [] (.mk (.mk la0z7 O3 O3 O3 O3 O3 O3 O3) O4 O4 O4 O4 O4 O4 O4) (.mk .d0 .d0 .d4 .d5 .d0)
def ksP : List Key := [(.mk .d0 .d0 .d0 .d0 .d0), (.mk .d0 .d0 .d0 .d0 .d1), (.mk .d0 .d0 .d0 .d0 .d2), (.mk .d0 .d0 .d1 .d4 .d4), (.mk .d0 .d0 .d1 .d4 .d5), (.mk .d0 .d0 .d1 .d4 .d6), (.mk .d0 .d0 .d1 .d5 .d6), (.mk .d0 .d0 .d1 .d5 .d7), (.mk .d0 .d0 .d4 .d4 .d3), (.mk .d0 .d0 .d4 .d4 .d4), (.mk .d0 .d0 .d4 .d4 .d7)]
def isMid (td : List Ci) : Bool := List.rec (motive := fun _ => Bool) false (fun c _ _ => match c with
  | .mid _ => true
  | _ => false) td
def hdM (d n : Nat) (c : Cfg) : Bool := Cfg.rec (motive := fun _ => Bool) (fun _ td _ cs _ _ => cnd (isMid td) (cnd (Nat.beq cs.length d) (Nat.beq td.length n) false) false) c
def noHd (_ : Cfg) : Bool := false
def sM (lo hi : Int) : AV := .sx .i64 kM 0 lo hi
def sT : AV := .sx .i64 kT 0 mn mx
def sK (lo hi : Int) : AV := .sx .i64 kK 0 lo hi
def args : List AV := [sM mn mx, .agg [sK mn mx, sT]]
def ivs (a b : Int) : List (Key × Int × Int) := [(kT, mn, mx), (kK, mn, mx), (kM, a, b)]
/-- names as they are -/
def sgN (a b kl kh : Int) : Sg := .mk [.mk kM kM 0 a b, .mk kT kT 0 mn mx, .mk kK kK 0 kl kh] [] [] [(kM, a, b), (kT, mn, mx), (kK, kl, kh)]
/-- a number is known -/
def sgC (a b k : Int) : Sg := .mk [.mk kM kM 0 a b, .mk kT kT 0 mn mx, .mk kZ kK (-k) 0 0] [] [] [(kM, a, b), (kT, mn, mx), (kK, k, k)]
def Fm (a b : Int) (rows : List Rf) : Fk := { rel := [.zero kM, .mk kZ kM a b], rows := rows, us := [] }
def rz (j : Int) : Rf := .mk kM kZ j [.int .i64 0]
/-- a class of what comes in -/
def Hc (a b kl kh : Int) (k : AV) : Cfg := match lac0 with
  | .mk (.mk t x y z) td fi cs h nx => .mk (.mk (setT 0 (sM a b) t) x y z) td fi cs (hset kR (rowOf [k, sT]) (hset kM (.iv a b) (hset kK (.iv kl kh) h))) nx
theorem lH : gcH ksP lac0.hp = lac0.hp := by kernel_rfl
theorem lN : enterT E1 (hdM 0 15) 4000 (sgN 0 70 mn mx) ksP [] lac0 args (initHv gs (ivs mn (-1))) (Key.ofNat 110) = some [] := by kernel_rfl
theorem lX : enterT E1 (hdM 0 15) 4000 (sgN 0 70 mn mx) ksP [] lac0 args (initHv gs (ivs 71 mx)) (Key.ofNat 110) = some [] := by kernel_rfl
theorem lP : enterT E1 (hdM 0 15) 4000 (sgN 0 70 mn mx) ksP [] lac0 args (initHv gs (ivs 0 70)) (Key.ofNat 110) = some [headE [] lac0] := by kernel_rfl
end
end Shrink
end Go.Proofs.YtdhfgfdpncmopaaGreatDoor
