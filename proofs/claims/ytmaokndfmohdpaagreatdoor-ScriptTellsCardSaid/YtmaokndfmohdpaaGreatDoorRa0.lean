/- The runs of the law: each comes to true. -/
import Derived.Test.YtmaokndfmohdpaaGreatDoorS1
open Go Go.Ev Go.Proofs
namespace Go.Proofs.YtmaokndfmohdpaaGreatDoor
namespace STells
/-- the names of the order's numbers -/
def kN : Key := .mk .d0 .d0 .d0 .d2 .d4
def kO : Key := .mk .d0 .d0 .d0 .d2 .d5
def kK : Key := .mk .d0 .d0 .d0 .d2 .d6
def iv2 : List (Key × Int × Int) := [(kN, -9223372036854775808, 9223372036854775807), (kO, -9223372036854775808, 9223372036854775807)]
theorem ok2 : ivsOk gs iv2 = true := by kernel_rfl
theorem okLo : ivsOk gs ((kK, -9223372036854775808, 0) :: iv2) = true := by kernel_rfl
theorem okHi : ivsOk gs ((kK, 6, 9223372036854775807) :: iv2) = true := by kernel_rfl
theorem run1 : startB E1 1000000 3 [.agg [I 1, .sx .i64 kN 0 (-9223372036854775808) 9223372036854775807, .sx .i64 kO 0 (-9223372036854775808) 9223372036854775807]] (initHv gs iv2) (Key.ofNat 30) = true := by kernel_rfl
theorem run2 : startB E1 1000000 3 [.agg [I 2, .sx .i64 kN 0 (-9223372036854775808) 9223372036854775807, .sx .i64 kO 0 (-9223372036854775808) 9223372036854775807]] (initHv gs iv2) (Key.ofNat 30) = true := by kernel_rfl
theorem run3 : startB E1 1000000 3 [.agg [I 3, .sx .i64 kN 0 (-9223372036854775808) 9223372036854775807, .sx .i64 kO 0 (-9223372036854775808) 9223372036854775807]] (initHv gs iv2) (Key.ofNat 30) = true := by kernel_rfl
theorem run4 : startB E1 1000000 3 [.agg [I 4, .sx .i64 kN 0 (-9223372036854775808) 9223372036854775807, .sx .i64 kO 0 (-9223372036854775808) 9223372036854775807]] (initHv gs iv2) (Key.ofNat 30) = true := by kernel_rfl
theorem run5 : startB E1 1000000 3 [.agg [I 5, .sx .i64 kN 0 (-9223372036854775808) 9223372036854775807, .sx .i64 kO 0 (-9223372036854775808) 9223372036854775807]] (initHv gs iv2) (Key.ofNat 30) = true := by kernel_rfl
theorem runLo : startB E1 1000000 3 [.agg [.sx .i64 kK 0 (-9223372036854775808) 0, .sx .i64 kN 0 (-9223372036854775808) 9223372036854775807, .sx .i64 kO 0 (-9223372036854775808) 9223372036854775807]] (initHv gs ((kK, -9223372036854775808, 0) :: iv2)) (Key.ofNat 30) = true := by kernel_rfl
theorem runHi : startB E1 1000000 3 [.agg [.sx .i64 kK 0 6 9223372036854775807, .sx .i64 kN 0 (-9223372036854775808) 9223372036854775807, .sx .i64 kO 0 (-9223372036854775808) 9223372036854775807]] (initHv gs ((kK, 6, 9223372036854775807) :: iv2)) (Key.ofNat 30) = true := by kernel_rfl
end STells
end Go.Proofs.YtmaokndfmohdpaaGreatDoor
