/- The laws BookPlays, BookChecks. -/
import Derived.Test.YtblapbjafbmndaaDoorP47
import Derived.Test.YtblapbjafbmndaaDoorSx24
namespace Go.Proofs.YtblapbjafbmndaaDoor
open Go Go.Sx Go.Sha
set_option linter.unusedVariables false
set_option linter.unusedSimpArgs false
set_option maxRecDepth 100000
set_option maxHeartbeats 4000000

/-- A list of acts. -/
abbrev OTy := RK.TL [.int .i64, .str, .sl 1 [.sl 1 [.int .u8]], .ints .u8 32]
def otag (o : OTy) : ByteArray := o.2.1
def ol (o : OTy) : List BTy := o.2.2.1.2
def oh (o : OTy) : List Int := o.2.2.2.1
structure OkO (o : OTy) : Prop where
  h : (oh o).length = 32
  l : (ol o).length ≤ 140737488351232
  t : (otag o).size ≤ 140737488351232
  b : ∀ y ∈ ol o, By (bl y)
end Go.Proofs.YtblapbjafbmndaaDoor
