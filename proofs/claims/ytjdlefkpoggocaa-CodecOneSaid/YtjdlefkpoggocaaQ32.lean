/- Bytes. -/
import Derived.Test.YtjdlefkpoggocaaQ30
import Derived.Test.YtjdlefkpoggocaaSx22
import Derived.Test.YtjdlefkpoggocaaWW
import Derived.Test.YtjdlefkpoggocaaSx24
namespace Go.Proofs.Ytjdlefkpoggocaa
open Go Go.Sx Go.Wide
set_option linter.unusedVariables false
set_option linter.unusedSimpArgs false
set_option maxRecDepth 100000
set_option maxHeartbeats 4000000

abbrev eB : Int → List SV := (encInt .u8).enc
abbrev byV (x : Value) (b : List Int) : M := .one (.view x 1 (encInt .u8).enc b)
structure CapT (n : Nat) where
  cap : Nat
  h : n ≤ cap
end Go.Proofs.Ytjdlefkpoggocaa
