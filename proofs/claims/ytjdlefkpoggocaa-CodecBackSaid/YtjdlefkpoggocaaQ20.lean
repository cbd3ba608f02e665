/- Contracts of functions of the package wide that the claims of its layer share. -/
import Derived.Test.YtjdlefkpoggocaaTab2
import Derived.Test.YtjdlefkpoggocaaWW
import Derived.Test.YtjdlefkpoggocaaSx22
import Derived.Laws.Externs
namespace Go.Proofs.Ytjdlefkpoggocaa
open Go Go.Sx Go.Wide
set_option linter.unusedVariables false
set_option linter.unusedSimpArgs false
set_option maxRecDepth 100000
set_option maxHeartbeats 4000000

abbrev u64 (x : Int) : M := .one (.v (.int .u64 x))
abbrev int (x : Int) : M := .one (.v (.int .i64 x))
abbrev bool (b : Bool) : M := .one (.v (.bool b))
abbrev wide (a b c d : Int) : M := .agg [.ints .u64 4 [a, b, c, d]]

end Go.Proofs.Ytjdlefkpoggocaa
