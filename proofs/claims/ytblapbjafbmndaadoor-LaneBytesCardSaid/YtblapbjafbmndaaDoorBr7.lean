/- The law of a proof's bytes as the bridge takes it. -/
import Derived.Test.YtblapbjafbmndaaDoorBr6
import Derived.Test.YtblapbjafbmndaaDoorPL7
namespace Go.Proofs.YtblapbjafbmndaaDoor
open Go Go.Sx Go.ChangeShapes Go.WideShapes Go.ChangeAt Go.RowKit Go.Sha
set_option linter.unusedVariables false
set_option linter.unusedSimpArgs false
set_option maxHeartbeats 4000000
set_option maxRecDepth 100000
theorem lbytes' (y : RK.TL PfF) (x : Value) (b : List Int) (h : RK.goods PfF y) (w : RK.lights PfF y) (_ : b.length ≤ maxLen) (hg : ∀ y ∈ b, 0 ≤ y ∧ y ≤ 255) (hs : b.length * 1 ≤ 140737488351232) :
    SFun Tryd.prog 8 [.agg (RK.svs PfF y), byV x b] (bool true) :=
  (bytes_law x y.2.2.1.1 (y.1, y.2.1) (by_good hg) (by omega) (pf_len y w) (pf_ok y h)).seen (.cons (.agg (.refl (.refl (.view (pf_enc y) .nil)))) (.cons (.refl _) .nil))
end Go.Proofs.YtblapbjafbmndaaDoor
