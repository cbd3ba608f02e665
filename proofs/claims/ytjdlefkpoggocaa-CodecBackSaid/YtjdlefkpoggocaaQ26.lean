/- The document's functions: halves, whole, the order, small ones. -/
import Derived.Test.YtjdlefkpoggocaaQ24
import Derived.Test.YtjdlefkpoggocaaWW
import Derived.Test.YtjdlefkpoggocaaSx22
namespace Go.Proofs.Ytjdlefkpoggocaa
open Go Go.Sx Go.Wide
set_option linter.unusedVariables false
set_option linter.unusedSimpArgs false
set_option maxRecDepth 100000
set_option maxHeartbeats 4000000

/-- Eight halves of a number. -/
abbrev H (n : Nat) : List Int := limbs N32 8 n
theorem wrapn {n : Nat} (h : n < 18446744073709551616) : IntKind.u64.wrap (n : Int) = (n : Int) := by rw [wrap_nat, Nat.mod_eq_of_lt h]

end Go.Proofs.Ytjdlefkpoggocaa
