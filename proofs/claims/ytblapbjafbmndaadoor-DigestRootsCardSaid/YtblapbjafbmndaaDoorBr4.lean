/- The law of roots as the bridge takes it. -/
import Derived.Test.YtblapbjafbmndaaDoorBr
import Derived.Test.YtblapbjafbmndaaDoorP16
namespace Go.Proofs.YtblapbjafbmndaaDoor
open Go Go.Sx Go.ChangeShapes Go.WideShapes Go.ChangeAt Go.RowKit Go.Sha
theorem roots' (x : Value) (b : List Int) (_ : b.length ≤ maxLen) (hg : ∀ y ∈ b, 0 ≤ y ∧ y ≤ 255) (hs : b.length * 1 ≤ 140737488351232) : SFun Tryd.prog 4 [byV x b] (bool true) := roots_spec x (by_good hg) (by omega)
end Go.Proofs.YtblapbjafbmndaaDoor
