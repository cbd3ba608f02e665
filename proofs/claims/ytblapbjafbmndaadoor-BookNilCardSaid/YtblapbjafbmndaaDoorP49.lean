/- The law BookChecks. -/
import Derived.Test.YtblapbjafbmndaaDoorP48
import Derived.Test.YtblapbjafbmndaaDoorSx24
namespace Go.Proofs.YtblapbjafbmndaaDoor
open Go Go.Sx Go.Sha
set_option linter.unusedVariables false
set_option linter.unusedSimpArgs false
set_option maxRecDepth 100000
set_option maxHeartbeats 4000000

/-- Unlike, with one digest? -/
noncomputable def chk (a b : List Int) : Bool := !decide (a = b) && (shaF a == shaF b)
end Go.Proofs.YtblapbjafbmndaaDoor
