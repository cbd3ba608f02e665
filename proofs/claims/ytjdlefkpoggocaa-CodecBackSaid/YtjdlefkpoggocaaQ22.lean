/- The contracts of sums, differences and order, said of the numbers themselves. -/
import Derived.Test.YtjdlefkpoggocaaQ21
import Derived.Test.YtjdlefkpoggocaaWW
import Derived.Test.YtjdlefkpoggocaaSx22
namespace Go.Proofs.Ytjdlefkpoggocaa
open Go Go.Sx Go.Wide
set_option linter.unusedVariables false
set_option linter.unusedSimpArgs false
set_option maxRecDepth 100000
set_option maxHeartbeats 4000000

abbrev w4 (a : List Int) : M := .agg [.ints .u64 4 a]

theorem L_zero : L 0 = [0, 0, 0, 0] := by decide

end Go.Proofs.Ytjdlefkpoggocaa
