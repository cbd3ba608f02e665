/- A number as text, and what must come. -/
import Derived.Test.YtjdlefkpoggocaaQ27
import Derived.Test.YtjdlefkpoggocaaWW
import Derived.Test.YtjdlefkpoggocaaSx22
import Derived.Test.YtjdlefkpoggocaaSx24
namespace Go.Proofs.Ytjdlefkpoggocaa
open Go Go.Sx Go.Wide
set_option linter.unusedVariables false
set_option linter.unusedSimpArgs false
set_option maxRecDepth 100000
set_option maxHeartbeats 4000000

abbrev str (s : ByteArray) : M := .one (.v (.string s))
theorem castB (l : List Int) : castL (encInt .u8) (encInt .u8) l = l := castL_self _ _ rfl
theorem ofB (x : Int) : (encInt .u8).of (x, ()) = x := rfl
theorem bytesOfB (l : List Int) : bytesOf (encInt .u8).enc l = l := by
  unfold bytesOf
  exact (List.map_congr_left (g := id) fun _ _ => rfl).trans (List.map_id l)
theorem encB_pure (l : List Int) : ∀ x ∈ l, ∀ s ∈ (encInt .u8).enc x, s.isPure = true := fun x _ s hs => by
  have : s ∈ [SV.v (.int .u8 x)] := hs
  rw [List.mem_singleton] at this
  rw [this]
  rfl

end Go.Proofs.Ytjdlefkpoggocaa
