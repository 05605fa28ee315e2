import Derived.Test.YthdbbamkjmogfaaDoorAbsM
import Derived.Test.YthdbbamkjmogfaaDoorGenSa
import Derived.Test.YthdbbamkjmogfaaDoorRows
set_option linter.unusedVariables false
set_option linter.unusedSimpArgs false
set_option maxRecDepth 100000
namespace Go.Abs.GenS
open Go.Proofs Go.Proofs.YthdbbamkjmogfaaDoor Go.ChangeShapes Go.WideShapes Go.ChangeAt Go.RowKit Go.Abs
theorem c9 : Tryd.prog.cellsOf 9 = 1 := by kernel_rfl
theorem O9 : Opens Tryd.prog 9 1 e_str wfS bkS := .str c9 Tryd.underlying9
theorem c3 : Tryd.prog.cellsOf 3 = 1 := by kernel_rfl
theorem O3 : Opens Tryd.prog 3 1 e_i64 (wfI .i64) bk1 := .int .i64 _ e_i64_eq c3 Tryd.underlying3
end Go.Abs.GenS
