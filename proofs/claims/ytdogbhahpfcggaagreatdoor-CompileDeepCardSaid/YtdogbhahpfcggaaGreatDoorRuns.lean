/- The runs of CompileDeep, together. -/
import Derived.Test.YtdogbhahpfcggaaGreatDoorRa0
import Derived.Test.YtdogbhahpfcggaaGreatDoorRa1
import Derived.Test.YtdogbhahpfcggaaGreatDoorRa2
import Derived.Test.YtdogbhahpfcggaaGreatDoorRa3
import Derived.Test.YtdogbhahpfcggaaGreatDoorRa4
import Derived.Test.YtdogbhahpfcggaaGreatDoorRa5
import Derived.Test.YtdogbhahpfcggaaGreatDoorRa6
import Derived.Test.YtdogbhahpfcggaaGreatDoorRa7
import Derived.Test.YtdogbhahpfcggaaGreatDoorRa8
open Go Go.Ev
namespace Go.Proofs.YtdogbhahpfcggaaGreatDoor
namespace Deep
theorem runs (d r : Nat) (hd : d < 31) (hr : r < 4) : startB E1 100000 3 [.int .i64 (.ofNat d), .md 4 r] (initH gs) (Key.ofNat 30) = true := by
  match r, hr with
  | 0, _ =>
    match d, hd with
    | 0, _ => exact run0_0
    | 1, _ => exact run1_0
    | 2, _ => exact run2_0
    | 3, _ => exact run3_0
    | 4, _ => exact run4_0
    | 5, _ => exact run5_0
    | 6, _ => exact run6_0
    | 7, _ => exact run7_0
    | 8, _ => exact run8_0
    | 9, _ => exact run9_0
    | 10, _ => exact run10_0
    | 11, _ => exact run11_0
    | 12, _ => exact run12_0
    | 13, _ => exact run13_0
    | 14, _ => exact run14_0
    | 15, _ => exact run15_0
    | 16, _ => exact run16_0
    | 17, _ => exact run17_0
    | 18, _ => exact run18_0
    | 19, _ => exact run19_0
    | 20, _ => exact run20_0
    | 21, _ => exact run21_0
    | 22, _ => exact run22_0
    | 23, _ => exact run23_0
    | 24, _ => exact run24_0
    | 25, _ => exact run25_0
    | 26, _ => exact run26_0
    | 27, _ => exact run27_0
    | 28, _ => exact run28_0
    | 29, _ => exact run29_0
    | 30, _ => exact run30_0
    | d + 31, h => exact absurd h (by omega)
  | 1, _ =>
    match d, hd with
    | 0, _ => exact run0_1
    | 1, _ => exact run1_1
    | 2, _ => exact run2_1
    | 3, _ => exact run3_1
    | 4, _ => exact run4_1
    | 5, _ => exact run5_1
    | 6, _ => exact run6_1
    | 7, _ => exact run7_1
    | 8, _ => exact run8_1
    | 9, _ => exact run9_1
    | 10, _ => exact run10_1
    | 11, _ => exact run11_1
    | 12, _ => exact run12_1
    | 13, _ => exact run13_1
    | 14, _ => exact run14_1
    | 15, _ => exact run15_1
    | 16, _ => exact run16_1
    | 17, _ => exact run17_1
    | 18, _ => exact run18_1
    | 19, _ => exact run19_1
    | 20, _ => exact run20_1
    | 21, _ => exact run21_1
    | 22, _ => exact run22_1
    | 23, _ => exact run23_1
    | 24, _ => exact run24_1
    | 25, _ => exact run25_1
    | 26, _ => exact run26_1
    | 27, _ => exact run27_1
    | 28, _ => exact run28_1
    | 29, _ => exact run29_1
    | 30, _ => exact run30_1
    | d + 31, h => exact absurd h (by omega)
  | 2, _ =>
    match d, hd with
    | 0, _ => exact run0_2
    | 1, _ => exact run1_2
    | 2, _ => exact run2_2
    | 3, _ => exact run3_2
    | 4, _ => exact run4_2
    | 5, _ => exact run5_2
    | 6, _ => exact run6_2
    | 7, _ => exact run7_2
    | 8, _ => exact run8_2
    | 9, _ => exact run9_2
    | 10, _ => exact run10_2
    | 11, _ => exact run11_2
    | 12, _ => exact run12_2
    | 13, _ => exact run13_2
    | 14, _ => exact run14_2
    | 15, _ => exact run15_2
    | 16, _ => exact run16_2
    | 17, _ => exact run17_2
    | 18, _ => exact run18_2
    | 19, _ => exact run19_2
    | 20, _ => exact run20_2
    | 21, _ => exact run21_2
    | 22, _ => exact run22_2
    | 23, _ => exact run23_2
    | 24, _ => exact run24_2
    | 25, _ => exact run25_2
    | 26, _ => exact run26_2
    | 27, _ => exact run27_2
    | 28, _ => exact run28_2
    | 29, _ => exact run29_2
    | 30, _ => exact run30_2
    | d + 31, h => exact absurd h (by omega)
  | 3, _ =>
    match d, hd with
    | 0, _ => exact run0_3
    | 1, _ => exact run1_3
    | 2, _ => exact run2_3
    | 3, _ => exact run3_3
    | 4, _ => exact run4_3
    | 5, _ => exact run5_3
    | 6, _ => exact run6_3
    | 7, _ => exact run7_3
    | 8, _ => exact run8_3
    | 9, _ => exact run9_3
    | 10, _ => exact run10_3
    | 11, _ => exact run11_3
    | 12, _ => exact run12_3
    | 13, _ => exact run13_3
    | 14, _ => exact run14_3
    | 15, _ => exact run15_3
    | 16, _ => exact run16_3
    | 17, _ => exact run17_3
    | 18, _ => exact run18_3
    | 19, _ => exact run19_3
    | 20, _ => exact run20_3
    | 21, _ => exact run21_3
    | 22, _ => exact run22_3
    | 23, _ => exact run23_3
    | 24, _ => exact run24_3
    | 25, _ => exact run25_3
    | 26, _ => exact run26_3
    | 27, _ => exact run27_3
    | 28, _ => exact run28_3
    | 29, _ => exact run29_3
    | 30, _ => exact run30_3
    | d + 31, h => exact absurd h (by omega)
  | r + 4, h => exact absurd h (by omega)
end Deep
end Go.Proofs.YtdogbhahpfcggaaGreatDoor
