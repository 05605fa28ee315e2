import Derived.Test.YtiegaebmhpdnmaaAbsM
import Derived.Test.YtiegaebmhpdnmaaGenVa
import Derived.Test.YtiegaebmhpdnmaaRows
set_option linter.unusedVariables false
set_option linter.unusedSimpArgs false
set_option maxRecDepth 100000
namespace Go.Abs.GenV
open Go.Proofs Go.Proofs.Ytiegaebmhpdnmaa Go.ChangeShapes Go.WideShapes Go.ChangeAt Go.RowKit Go.Abs
theorem c5 : Try.prog.cellsOf 5 = 1 := by kernel_rfl
theorem O5 : Opens Try.prog 5 1 e_u8 (wfI .u8) bk1 := .int .u8 _ e_u8_eq c5 Try.underlying5
theorem c22 : Try.prog.cellsOf 22 = 1 := by kernel_rfl
theorem O22 : Opens Try.prog 22 1 (e_sl e_u8) (wfL (wfI .u8)) (bkL bk1) := .slice O5 c22 Try.underlying22
theorem c23 : Try.prog.cellsOf 23 = 1 := by kernel_rfl
theorem O23 : Opens Try.prog 23 1 (e_sl (e_sl e_u8)) (wfL (wfL (wfI .u8))) (bkL (bkL bk1)) := .slice O22 c23 Try.underlying23
theorem c3 : Try.prog.cellsOf 3 = 1 := by kernel_rfl
theorem O3 : Opens Try.prog 3 1 e_i64 (wfI .i64) bk1 := .int .i64 _ e_i64_eq c3 Try.underlying3
theorem c24 : Try.prog.cellsOf 24 = 1 := by kernel_rfl
theorem O24 : Opens Try.prog 24 1 (e_sl e_i64) (wfL (wfI .i64)) (bkL bk1) := .slice O3 c24 Try.underlying24
end Go.Abs.GenV
