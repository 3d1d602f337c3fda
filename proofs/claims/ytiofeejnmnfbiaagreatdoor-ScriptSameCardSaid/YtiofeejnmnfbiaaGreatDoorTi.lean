/- The row's tie: what the program's text lays in the listed variables; one theorem a closed fact. -/
import Derived.Test.YtiofeejnmnfbiaaGreatDoorRows
import Derived.LaidByTextLater
import Derived.SevenTiedAt
import Derived.KernelRfl
set_option linter.unusedVariables false
namespace Go.Proofs.YtiofeejnmnfbiaaGreatDoor.Same
open Go
noncomputable def tl : List (String × DataW Unit) := [("strconv.ErrSyntax", Rows.laid_strconv_ErrSyntax), ("strconv.ErrRange", Rows.laid_strconv_ErrRange), ("internal/strconv.uint64pow10", Rows.laid_internal_strconv_uint64pow10), ("math/bits.deBruijn32tab", Rows.laid_math_bits_deBruijn32tab), ("math/bits.deBruijn64tab", Rows.laid_math_bits_deBruijn64tab), ("warp/syntax.opers", Rows.laid_warp_syntax_opers), ("warp/syntax.shapes", Rows.laid_warp_syntax_shapes), ("warp/compile.opCodes", Rows.laid_warp_compile_opCodes), ("warp/ops.codes", Rows.laid_warp_ops_codes), ("warp/verify.effects", Rows.laid_warp_verify_effects)]
noncomputable def tk : List LaidKind := [.sentinel, .sentinel, .data, .data, .data, .data, .data, .data, .data, .data]
theorem ti0 : Tryz.pinned.checked.prog.headLifts.contains "ownunsafe" = false := by kernel_rfl
theorem ti1 : Tryz.prog.worded (varsWordLater true) = true := by kernel_rfl
theorem ti2 : Tryz.prog.worded (varsWordLater !true) = false := by kernel_rfl
theorem ti3 : Tryz.prog.worded rootWordLater = true := by kernel_rfl
theorem ti4 : tl.map (fun x => Tryz.prog.kindOfLater x.1) = tk.map some := by kernel_rfl
theorem ti5 : (Tryz.prog.funcNamed "gosem.cut.vars").isSome = true := by kernel_rfl
theorem ti6 : varsNamedLaterB Tryz.prog (varsId Tryz.prog) tl = true := by kernel_rfl
theorem ti7 (os : Os) (tape) : varsDone Tryz.prog 400 (varsId Tryz.prog) os tape = true := by kernel_rfl
theorem ti8 (os : Os) (tape) : (DataW.laidRun Tryz.prog (varsWorld Tryz.prog 400 (varsId Tryz.prog) os tape).memory 8 (tl.map (·.1))).map (·.1) = some tl := by kernel_rfl
theorem ti9 (os : Os) (tape) : (DataW.laidRun Tryz.prog (varsWorld Tryz.prog 400 (varsId Tryz.prog) os tape).memory 8 (tl.map (·.1))).map (fun x => decide x.2.Nodup && laidRowsB Tryz.prog (varsWorld Tryz.prog 400 (varsId Tryz.prog) os tape).memory x.2) = some true := by kernel_rfl
theorem tiA : (tl.all fun x => x.2.handleName?.isNone) = true := by kernel_rfl
theorem tie : Tryz.prog.laidByTextLater tl tk true := Program.laidByTextLater_by_run 400 8 ti1 ti2 ti3 ti4 ti5 ti6 ti7 ti8 ti9 tiA
theorem row_tie : Rows.scriptSameRow.laidByTextAt .later Tryz.pinned [.sentinel, .sentinel, .data, .data, .data, .data, .data, .data, .data, .data] true :=
  OpenClaim.laidByTextAt_later rfl rfl tie ti0
end Go.Proofs.YtiofeejnmnfbiaaGreatDoor.Same
