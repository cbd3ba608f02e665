/- The laws of books as the bridge takes them. -/
import Derived.Test.YtblapbjafbmndaaDoorBr
import Derived.Test.YtblapbjafbmndaaDoorPB
import Derived.Test.YtblapbjafbmndaaDoorSx24
import Derived.Test.YtblapbjafbmndaaDoorP47
import Derived.Test.YtblapbjafbmndaaDoorP50
namespace Go.Proofs.YtblapbjafbmndaaDoor
open Go Go.Sx Go.ChangeShapes Go.WideShapes Go.ChangeAt Go.RowKit Go.Sha
set_option linter.unusedVariables false
set_option linter.unusedSimpArgs false
set_option maxHeartbeats 4000000
set_option maxRecDepth 100000
theorem bchecks' (x : Value) (a : List Int) (y : Value) (b : List Int) (_ : a.length ≤ maxLen) (ha : ∀ y ∈ a, 0 ≤ y ∧ y ≤ 255) (h1 : a.length * 1 ≤ 140737488351232) (_ : b.length ≤ maxLen) (hb : ∀ y ∈ b, 0 ≤ y ∧ y ≤ 255) (h2 : b.length * 1 ≤ 140737488351232) : SFun Tryd.prog 11 [byV x a, byV y b] (bool true) :=
  bchecks_spec x y (by_good ha) (by_good hb) (by omega) (by omega)
end Go.Proofs.YtblapbjafbmndaaDoor
