/- The law InboxPlays as the bridge takes it. -/
import Derived.Test.YtgbikcniediomaaPK
import Derived.Test.YtgbikcniediomaaBi
namespace Go.Proofs.Ytgbikcniediomaa
open Go Go.Sx Go.ChangeShapes Go.WideShapes Go.ChangeAt Go.RowKit
set_option linter.unusedVariables false
set_option linter.unusedSimpArgs false
theorem plays' (x : Value) (l : List OTy) (hl : l.length ≤ maxLen) (_ : ∀ o ∈ l, True) (h1 : l.length * 120 ≤ 140737488351232) : SFun Try.prog 5 [.one (.view x 11 EO.enc l)] (bool true) :=
  iplays_spec x (by omega)
theorem o_dec (y : OTy) (h : RK.goods OpF y) (w : RK.lights OpF y) : ∃ z : OTy, True ∧ EO.enc z = RK.svs OpF y := ⟨y, trivial, rfl⟩
end Go.Proofs.Ytgbikcniediomaa
