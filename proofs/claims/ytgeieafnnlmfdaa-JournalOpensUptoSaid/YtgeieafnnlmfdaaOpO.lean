import Derived.Test.YtgeieafnnlmfdaaAbsM
import Derived.Test.YtgeieafnnlmfdaaGenOa
import Derived.Test.YtgeieafnnlmfdaaRows
set_option linter.unusedVariables false
set_option linter.unusedSimpArgs false
set_option maxRecDepth 100000
namespace Go.Abs.GenO
open Go.Proofs Go.Proofs.Ytgeieafnnlmfdaa Go.ChangeShapes Go.WideShapes Go.ChangeAt Go.RowKit Go.Abs
theorem c5 : Try.prog.cellsOf 5 = 1 := by kernel_rfl
theorem O5 : Opens Try.prog 5 1 e_u8 (wfI .u8) bk1 := .int .u8 _ e_u8_eq c5 Try.underlying5
theorem c22 : Try.prog.cellsOf 22 = 1 := by kernel_rfl
theorem O22 : Opens Try.prog 22 1 (e_sl e_u8) (wfL (wfI .u8)) (bkL bk1) := .slice O5 c22 Try.underlying22
end Go.Abs.GenO
