import Derived.Test.YtgeieafnnlmfdaaAbsM
import Derived.Test.YtgeieafnnlmfdaaGenKa
import Derived.Test.YtgeieafnnlmfdaaRows
set_option linter.unusedVariables false
set_option linter.unusedSimpArgs false
set_option maxRecDepth 100000
namespace Go.Abs.GenK
open Go.Proofs Go.Proofs.Ytgeieafnnlmfdaa Go.ChangeShapes Go.WideShapes Go.ChangeAt Go.RowKit Go.Abs
theorem c5 : Try.prog.cellsOf 5 = 1 := by kernel_rfl
theorem O5 : Opens Try.prog 5 1 e_u8 (wfI .u8) bk1 := .int .u8 _ e_u8_eq c5 Try.underlying5
theorem c22 : Try.prog.cellsOf 22 = 1 := by kernel_rfl
theorem O22 : Opens Try.prog 22 1 (e_sl e_u8) (wfL (wfI .u8)) (bkL bk1) := .slice O5 c22 Try.underlying22
theorem c25 : Try.prog.cellsOf 25 = 1 := by kernel_rfl
theorem O25 : Opens Try.prog 25 1 (e_sl (e_sl e_u8)) (wfL (wfL (wfI .u8))) (bkL (bkL bk1)) := .slice O22 c25 Try.underlying25
theorem c4 : Try.prog.cellsOf 4 = 1 := by kernel_rfl
theorem O4 : Opens Try.prog 4 1 e_bool wfB bk1 := .bool c4 Try.underlying4
theorem c3 : Try.prog.cellsOf 3 = 1 := by kernel_rfl
theorem O3 : Opens Try.prog 3 1 e_i64 (wfI .i64) bk1 := .int .i64 _ e_i64_eq c3 Try.underlying3
theorem c42 : Try.prog.cellsOf 42 = 1 := by kernel_rfl
theorem O42 : Opens Try.prog 42 1 (e_sl e_i64) (wfL (wfI .i64)) (bkL bk1) := .slice O3 c42 Try.underlying42
end Go.Abs.GenK
