/- The package variables that are read and never written: rows of whole numbers. Each seat has its own text of this name. -/
import Derived.WalkKit
namespace Go.Sx
def gtab : List (Nat × (IntKind × List Int)) := []
end Go.Sx
