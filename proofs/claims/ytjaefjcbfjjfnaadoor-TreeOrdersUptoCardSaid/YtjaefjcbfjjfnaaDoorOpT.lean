import Derived.Test.YtjaefjcbfjjfnaaDoorAbsM
import Derived.Test.YtjaefjcbfjjfnaaDoorGenTa
import Derived.Test.YtjaefjcbfjjfnaaDoorRows
set_option linter.unusedVariables false
set_option linter.unusedSimpArgs false
set_option maxRecDepth 100000
namespace Go.Abs.GenT
open Go.Proofs Go.Proofs.YtjaefjcbfjjfnaaDoor Go.ChangeShapes Go.WideShapes Go.ChangeAt Go.RowKit Go.Abs
theorem c9 : Tryd.prog.cellsOf 9 = 1 := by kernel_rfl
theorem O9 : Opens Tryd.prog 9 1 e_str wfS bkS := .str c9 Tryd.underlying9
end Go.Abs.GenT
