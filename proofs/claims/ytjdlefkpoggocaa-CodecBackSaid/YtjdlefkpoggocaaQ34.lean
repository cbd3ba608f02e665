/- Numbers as bytes and as text: the laws. -/
import Derived.Test.YtjdlefkpoggocaaQ32
import Derived.Test.YtjdlefkpoggocaaWW
import Derived.Laws.Strings
import Derived.Test.YtjdlefkpoggocaaSx24
namespace Go.Proofs.Ytjdlefkpoggocaa
open Go Go.Sx Go.Wide
set_option linter.unusedVariables false
set_option linter.unusedSimpArgs false
set_option maxRecDepth 100000
set_option maxHeartbeats 4000000

theorem t32 (x : Nat) : List.take 32 (List.drop 0 (by32 x)) = by32 x := by rw [List.drop_zero, List.take_of_length_le (by rw [by32_length]; omega)]
end Go.Proofs.Ytjdlefkpoggocaa
