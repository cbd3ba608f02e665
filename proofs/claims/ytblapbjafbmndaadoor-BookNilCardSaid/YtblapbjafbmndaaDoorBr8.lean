/- The laws of books as the bridge takes them. -/
import Derived.Test.YtblapbjafbmndaaDoorBr2
import Derived.Test.YtblapbjafbmndaaDoorP48
import Derived.Test.YtblapbjafbmndaaDoorP49
import Derived.Test.YtblapbjafbmndaaDoorSx24
namespace Go.Proofs.YtblapbjafbmndaaDoor
open Go Go.Sx Go.ChangeShapes Go.WideShapes Go.ChangeAt Go.RowKit Go.Sha
set_option linter.unusedVariables false
set_option linter.unusedSimpArgs false
set_option maxHeartbeats 4000000
set_option maxRecDepth 100000
abbrev OpF : List RK := [.int .i64, .str, .sl 1 [.sl 1 [.int .u8]], .ints .u8 32]
theorem y_By (y : BTy) (h : RK.goods [.sl 1 [.int .u8]] y) : By (bl y) := fun p hp => by
  obtain ⟨q, hq, rfl⟩ := List.mem_map.1 hp
  have h1 := (h.1.2 q hq).1
  have h0 : IntKind.u8.min ≤ b1 q ∧ b1 q ≤ IntKind.u8.max := h1
  have h2 : IntKind.u8.min = 0 := rfl
  have h3 : IntKind.u8.max = 255 := rfl
  rw [h2, h3] at h0
  omega
theorem o_ok (y : OTy) (h : RK.goods OpF y) (w : RK.lights OpF y) : OkO y := by
  refine ⟨(h_good h.2.2.2.1).1, ?_, w.2.1, fun z hz => y_By z (h.2.2.1.2 z hz)⟩
  have h1 : List.length y.2.2.1.2 * RK.bytes [.sl 1 [.int .u8]] ≤ 140737488351232 := w.2.2.1.1
  have h2 : RK.bytes [.sl 1 [.int .u8]] = 24 := by decide
  rw [h2] at h1
  show List.length y.2.2.1.2 ≤ 140737488351232
  omega
end Go.Proofs.YtblapbjafbmndaaDoor
