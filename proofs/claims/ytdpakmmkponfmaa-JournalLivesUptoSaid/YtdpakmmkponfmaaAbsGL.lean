import Derived.Test.YtdpakmmkponfmaaAbsP
namespace Go.Abs
/-- what the package variables that are read hold: by their blocks. -/
def GL : Nat → Option (List P) := fun _ => none
end Go.Abs
