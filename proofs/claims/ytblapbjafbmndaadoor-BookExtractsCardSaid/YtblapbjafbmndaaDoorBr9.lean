/- The law BookExtracts as the bridge takes it. -/
import Derived.Test.YtblapbjafbmndaaDoorBr8
import Derived.Test.YtblapbjafbmndaaDoorP53
namespace Go.Proofs.YtblapbjafbmndaaDoor
open Go Go.Sx Go.ChangeShapes Go.WideShapes Go.ChangeAt Go.RowKit Go.Sha
set_option linter.unusedVariables false
set_option linter.unusedSimpArgs false
set_option maxHeartbeats 4000000
set_option maxRecDepth 100000
theorem bextracts' (x : Value) (l : List OTy) (hl : l.length ≤ maxLen) (ho : ∀ o ∈ l, OkO o) (_ : l.length * 80 ≤ 140737488351232) : SFun Tryd.prog 14 [oV x l] (bool true) :=
  bextracts_spec x l ho (Nat.le_trans hl maxLen_le)
end Go.Proofs.YtblapbjafbmndaaDoor
