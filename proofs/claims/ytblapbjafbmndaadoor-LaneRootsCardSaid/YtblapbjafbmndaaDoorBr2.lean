/- How hashes and lists of parts are read; the laws of frames as the bridge takes them. -/
import Derived.Test.YtblapbjafbmndaaDoorBr
import Derived.Test.YtblapbjafbmndaaDoorP11
namespace Go.Proofs.YtblapbjafbmndaaDoor
open Go Go.Sx Go.ChangeShapes Go.WideShapes Go.ChangeAt Go.RowKit Go.Sha
set_option linter.unusedVariables false
set_option linter.unusedSimpArgs false
set_option maxHeartbeats 4000000
set_option maxRecDepth 100000
theorem ba_dec (y : BTy) (h : RK.goods [.sl 1 [.int .u8]] y) (w : RK.lights [.sl 1 [.int .u8]] y) : ∃ z : BTy, (By (bl z) ∧ (bl z).length ≤ 140737488351232) ∧ eBl z = RK.svs [.sl 1 [.int .u8]] y := by
  refine ⟨y, ⟨fun p hp => ?_, ?_⟩, rfl⟩
  · obtain ⟨q, hq, rfl⟩ := List.mem_map.1 hp
    have h1 := (h.1.2 q hq).1
    have h0 : IntKind.u8.min ≤ b1 q ∧ b1 q ≤ IntKind.u8.max := h1
    have h2 : IntKind.u8.min = 0 := rfl
    have h3 : IntKind.u8.max = 255 := rfl
    rw [h2, h3] at h0
    omega
  · have h1 : List.length y.1.2 * 1 ≤ 140737488351232 := w.1.1
    rw [bl_length]
    omega
end Go.Proofs.YtblapbjafbmndaaDoor
