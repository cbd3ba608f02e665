/- The law InboxQueue as the bridge takes it. -/
import Derived.Test.YtgbikcniediomaaDoorBq
import Derived.Test.YtgbikcniediomaaDoorPJ
namespace Go.Proofs.YtgbikcniediomaaDoor
open Go Go.Sx Go.ChangeShapes Go.WideShapes Go.ChangeAt Go.RowKit Go.Sha
set_option linter.unusedVariables false
set_option linter.unusedSimpArgs false
set_option maxHeartbeats 4000000
set_option maxRecDepth 100000
theorem queue' (x : Value) (l : List OTy) (hl : l.length ≤ maxLen) (ho : ∀ o ∈ l, okO o) (h1 : l.length * 120 ≤ 140737488351232) : SFun Tryd.prog 4 [oV x l] (bool true) :=
  queue_spec' x (by omega) ho
end Go.Proofs.YtgbikcniediomaaDoor
