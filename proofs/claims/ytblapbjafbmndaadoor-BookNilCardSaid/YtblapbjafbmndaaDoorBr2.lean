/- How hashes and lists of parts are read; the laws of frames as the bridge takes them. -/
import Derived.Test.YtblapbjafbmndaaDoorBr
import Derived.Test.YtblapbjafbmndaaDoorPB
namespace Go.Proofs.YtblapbjafbmndaaDoor
open Go Go.Sx Go.ChangeShapes Go.WideShapes Go.ChangeAt Go.RowKit Go.Sha
set_option linter.unusedVariables false
set_option linter.unusedSimpArgs false
set_option maxHeartbeats 4000000
set_option maxRecDepth 100000
theorem h_good {a : List Int} (h : RK.good (.ints .u8 32) a) : a.length = 32 ∧ By a := ⟨h.1, fun x hx => by
  have h1 := h.2 x hx
  have h2 : IntKind.u8.min = 0 := rfl
  have h3 : IntKind.u8.max = 255 := rfl
  rw [h2, h3] at h1
  omega⟩
end Go.Proofs.YtblapbjafbmndaaDoor
