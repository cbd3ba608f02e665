/- The inbox's laws as the bridge takes them: acts. -/
import Derived.Test.YtgbikcniediomaaDoorBr
import Derived.Test.YtgbikcniediomaaDoorPJ
namespace Go.Proofs.YtgbikcniediomaaDoor
open Go Go.Sx Go.ChangeShapes Go.WideShapes Go.ChangeAt Go.RowKit Go.Sha
set_option linter.unusedVariables false
set_option linter.unusedSimpArgs false
set_option maxHeartbeats 4000000
set_option maxRecDepth 100000
theorem b1_By {l : List (RK.TL [.int .u8])} (h : ∀ q ∈ l, RK.goods [.int .u8] q) : By (List.map b1 l) := fun p hp => by
  obtain ⟨q, hq, rfl⟩ := List.mem_map.1 hp
  have h1 := (h q hq).1
  have h0 : IntKind.u8.min ≤ b1 q ∧ b1 q ≤ IntKind.u8.max := h1
  have h2 : IntKind.u8.min = 0 := rfl
  have h3 : IntKind.u8.max = 255 := rfl
  rw [h2, h3] at h0
  omega
theorem o_ok (y : OTy) (h : RK.goods OpF y) : okO y := ⟨⟨h.2.2.2.2.1.1, b1_By fun q hq => h.2.2.2.2.2.2.1.2 q hq⟩, b1_By fun q hq => h.2.2.2.2.2.2.2.1.2 q hq⟩
theorem o_dec (y : OTy) (h : RK.goods OpF y) (w : RK.lights OpF y) : ∃ z : OTy, okO z ∧ EO.enc z = RK.svs OpF y := ⟨y, o_ok y h, rfl⟩
end Go.Proofs.YtgbikcniediomaaDoor
