import Derived.Test.YtkcaljadkfpefaaDoorAbsM
import Derived.Test.YtkcaljadkfpefaaDoorTie
import Derived.Test.YtkcaljadkfpefaaDoorCards
import Derived.LaidMore
import Derived.Lay
import Derived.SevenTiedAt
import Derived.Stop.Joined
import Derived.Deep.DeepHandedRow
set_option linter.unusedVariables false
set_option maxRecDepth 100000
namespace Go.Abs
open Go Go.Proofs Go.Proofs.YtkcaljadkfpefaaDoor Go.ChangeShapes Go.WideShapes Go.ChangeAt Go.RowKit
/-- no package variable of these rows is read. -/
theorem glob_ok {w : World} {p : Prop} (hL : p) : GlobOK w (fun b => b < w.heap.size) := by
 intro b ps h; cases h
end Go.Abs
