/- The inbox's nil law: its argument. -/
import Derived.Test.YtgbikcniediomaaPI
import Derived.Test.YtgbikcniediomaaBi
namespace Go.Proofs.Ytgbikcniediomaa
open Go Go.Sx Go.ChangeShapes Go.WideShapes Go.ChangeAt Go.RowKit
set_option linter.unusedVariables false
set_option linter.unusedSimpArgs false
theorem inil' (y : RK.TL OpF) (_ : RK.goods OpF y) (_ : RK.lights OpF y) : SFun Try.prog 6 [.agg (RK.svs OpF y)] (bool true) :=
  (inil_spec y.1 y.2.1 y.2.2.1 y.2.2.2.1 y.2.2.2.2.1 y.2.2.2.2.2.1 y.2.2.2.2.2.2.1.1 (od y) y.2.2.2.2.2.2.2.1.1 (ob y)).seen (.cons (.agg (.refl (.refl (.refl (.refl (.refl (.refl (.view (b1_svs _) (.view (b1_svs _) .nil))))))))) .nil)
end Go.Proofs.Ytgbikcniediomaa
