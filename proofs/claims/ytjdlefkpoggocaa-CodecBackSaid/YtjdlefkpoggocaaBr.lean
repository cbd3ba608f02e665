import Derived.Test.YtjdlefkpoggocaaQ34
import Derived.Test.YtjdlefkpoggocaaRows
import Derived.JoinedOf
import Derived.JoinedAt
namespace Go.Proofs.Ytjdlefkpoggocaa
open Go Go.Sx Go.ChangeShapes Go.WideShapes Go.ChangeAt Go.RowKit
set_option linter.unusedVariables false
set_option linter.unusedSimpArgs false
set_option maxHeartbeats 4000000
set_option maxRecDepth 100000
theorem own : ownKnob Try.prog.godebug = none := by kernel_rfl
theorem kids : Kids Try.prog (· < Try.prog.types.size) := kids_rows (by kernel_rfl) (by kernel_rfl)
theorem full : ∀ t e, t < Try.prog.types.size → Try.prog.underlying t = some (.slice e) → 0 < Try.prog.cellsOf e := slices_full_of Try.prog (by kernel_rfl)
theorem undB : Try.prog.underlying 4 = some .bool := by kernel_rfl
open Go.Wide in
theorem l4_good {a : List Int} (h : RK.good (.ints .u64 4) a) : L4 a := ⟨h.1, fun x hx => by
  have h1 := h.2 x hx
  have h2 : IntKind.u64.min = 0 := rfl
  have h3 : IntKind.u64.max = 18446744073709551615 := rfl
  rw [h2, h3] at h1
  have : ((N64 : Nat) : Int) = 18446744073709551616 := rfl
  omega⟩
end Go.Proofs.Ytjdlefkpoggocaa
