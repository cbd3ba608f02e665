/- The document's functions: sums and differences. -/
import Derived.Test.YtjdlefkpoggocaaQ26
import Derived.Test.YtjdlefkpoggocaaSx22
namespace Go.Proofs.Ytjdlefkpoggocaa
open Go Go.Sx Go.Wide
set_option linter.unusedVariables false
set_option linter.unusedSimpArgs false
set_option maxRecDepth 100000
set_option maxHeartbeats 4000000

theorem lone {q : Nat} (h : q ≤ 1) : IntKind.u64.wrap (1 - (q : Int)) = ((1 - q : Nat) : Int) := by
  rw [wrap_u64]
  omega
end Go.Proofs.Ytjdlefkpoggocaa
