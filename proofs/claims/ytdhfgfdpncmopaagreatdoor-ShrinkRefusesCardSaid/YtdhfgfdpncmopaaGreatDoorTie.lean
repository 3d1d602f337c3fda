/-
  DERIVED. GIVEN WITH THE SEED: THE PROGRAM's TIES (one call each: nine closed facts by the kernel) AND EACH ROW's TIE, after the 31st guide's Derived/Test/Toyas{Tie, Card}.lean. No idea stands in it: it is a product of the set-up. Laid BY PROGRAM, IN A SANDBOX (cutbox-door.mjs). By AI agents, Wed Nov 11 2026. No macro, syntax, notation, axiom, sorry.
-/
import Derived.Test.YtdhfgfdpncmopaaGreatDoorRows
import Derived.LaidByTextLater
import Derived.SevenTiedAt
import Derived.LaidSub
import Derived.LaidOnce
namespace Go.Proofs.YtdhfgfdpncmopaaGreatDoor
open Go
set_option maxRecDepth 100000
theorem seatTie1 : Tryz.prog.laidByTextLater [("warp/ops.codes", Rows.laid_warp_ops_codes), ("warp/compile.opCodes", Rows.laid_warp_compile_opCodes), ("warp/verify.effects", Rows.laid_warp_verify_effects)] [.data, .data, .data] true :=
  Program.laidByTextLater_by_one 83 8 71 (by kernel_rfl) (by kernel_rfl) (by kernel_rfl) (by kernel_rfl) (by kernel_rfl) (by kernel_rfl) (fun _ _ => by kernel_rfl)
theorem noOwnUnsafe : Tryz.pinned.checked.prog.headLifts.contains "ownunsafe" = false := by kernel_rfl
theorem tie : Tryz.prog.laidByTextLater [("warp/ops.codes", Rows.laid_warp_ops_codes), ("warp/compile.opCodes", Rows.laid_warp_compile_opCodes), ("warp/verify.effects", Rows.laid_warp_verify_effects)] [.data, .data, .data] true :=
  Program.laidByTextLater.sub seatTie1 ["warp/ops.codes", "warp/compile.opCodes", "warp/verify.effects"] (by kernel_rfl) (by kernel_rfl)
theorem shrinkRefuses_row_tie : Rows.shrinkRefusesRow.laidByTextAt .later Tryz.pinned [.data, .data, .data] true :=
  OpenClaim.laidByTextAt_later rfl rfl tie noOwnUnsafe
theorem shrinkRefusesUpto_row_tie : Rows.shrinkRefusesUptoRow.laidByTextAt .later Tryz.pinned [.data, .data, .data] true :=
  OpenClaim.laidByTextAt_later rfl rfl tie noOwnUnsafe
end Go.Proofs.YtdhfgfdpncmopaaGreatDoor
