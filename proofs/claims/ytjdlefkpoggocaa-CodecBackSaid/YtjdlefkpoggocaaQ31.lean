/- What must come, and the laws of the products. -/
import Derived.Test.YtjdlefkpoggocaaQ30
import Derived.Test.YtjdlefkpoggocaaSx22
namespace Go.Proofs.Ytjdlefkpoggocaa
open Go Go.Sx Go.Wide
set_option linter.unusedVariables false
set_option linter.unusedSimpArgs false
set_option maxRecDepth 100000
set_option maxHeartbeats 4000000

theorem b00 : ((0 : Int) != 0) = false := rfl
end Go.Proofs.Ytjdlefkpoggocaa
