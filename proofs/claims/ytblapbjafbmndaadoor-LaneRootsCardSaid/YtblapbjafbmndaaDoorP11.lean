/- The law DigestFrames. -/
import Derived.Test.YtblapbjafbmndaaDoorP10
import Derived.Test.YtblapbjafbmndaaDoorSx24
namespace Go.Proofs.YtblapbjafbmndaaDoor
open Go Go.Sx Go.Sha
set_option linter.unusedVariables false
set_option linter.unusedSimpArgs false
set_option maxRecDepth 100000
set_option maxHeartbeats 4000000

/-- The sum that the law adds up. -/
def tot (l : List BTy) : Nat := (l.map fun y => min (bl y).length 30000).sum
end Go.Proofs.YtblapbjafbmndaaDoor
