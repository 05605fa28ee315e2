import Derived.Test.YtknfjmongeddgaaDoorAbsM
import Derived.Test.YtknfjmongeddgaaDoorGenCa
import Derived.Test.YtknfjmongeddgaaDoorRows
set_option linter.unusedVariables false
set_option linter.unusedSimpArgs false
set_option maxRecDepth 100000
namespace Go.Abs.GenC
open Go.Proofs Go.Proofs.YtknfjmongeddgaaDoor Go.ChangeShapes Go.WideShapes Go.ChangeAt Go.RowKit Go.Abs
theorem c3 : Tryd.prog.cellsOf 3 = 1 := by kernel_rfl
theorem O3 : Opens Tryd.prog 3 1 e_i64 (wfI .i64) bk1 := .int .i64 _ e_i64_eq c3 Tryd.underlying3
theorem c9 : Tryd.prog.cellsOf 9 = 1 := by kernel_rfl
theorem O9 : Opens Tryd.prog 9 1 e_str wfS bkS := .str c9 Tryd.underlying9
theorem c5 : Tryd.prog.cellsOf 5 = 1 := by kernel_rfl
theorem O5 : Opens Tryd.prog 5 1 e_u8 (wfI .u8) bk1 := .int .u8 _ e_u8_eq c5 Tryd.underlying5
theorem c31 : Tryd.prog.cellsOf 31 = 1 := by kernel_rfl
theorem O31 : Opens Tryd.prog 31 1 (e_sl e_u8) (wfL (wfI .u8)) (bkL bk1) := .slice O5 c31 Tryd.underlying31
end Go.Abs.GenC
