/- The law of texts as the bridge takes it. -/
import Derived.Test.YtblapbjafbmndaaDoorBr2
import Derived.Test.YtblapbjafbmndaaDoorP13
namespace Go.Proofs.YtblapbjafbmndaaDoor
open Go Go.Sx Go.ChangeShapes Go.WideShapes Go.ChangeAt Go.RowKit Go.Sha
theorem texts' (a : List Int) (t : ByteArray) (ha : a.length = 32 ∧ By a) (ht : t.size ≤ maxLen) : SFun Tryd.prog 7 [h32 a, str t] (bool true) :=
  texts_spec t ha.1 ha.2 (Nat.le_trans ht maxLen_le)
end Go.Proofs.YtblapbjafbmndaaDoor
