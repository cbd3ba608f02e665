/- Two blobs behind each other. -/
import Derived.Test.YtjdlefkpoggocaaQ42
import Derived.Test.YtjdlefkpoggocaaWW
import Derived.Test.YtjdlefkpoggocaaSx24
namespace Go.Proofs.Ytjdlefkpoggocaa
open Go Go.Sx Go.Wide
set_option linter.unusedVariables false
set_option linter.unusedSimpArgs false
set_option maxRecDepth 100000
set_option maxHeartbeats 4000000

def mkI (y : Int) : RK.TL [.int .u8] := (Prod.mk (α := Int) (β := Unit) y ())
def mkL (l : List Int) : List (RK.TL [.int .u8]) := l.map mkI
def mkB (x : Value) (l : List Int) : BTy := ((x, mkL l), ())
theorem b1_mk : b1 ∘ mkI = id := rfl
theorem svs_mk : RK.svs [.int .u8] ∘ mkI = (encInt .u8).enc := rfl
theorem bl_mk (x : Value) (l : List Int) : bl (mkB x l) = l := by
  have : bl (mkB x l) = List.map b1 (List.map mkI l) := rfl
  rw [this, List.map_map, b1_mk]
  exact List.map_id l
theorem encmk (l : List Int) : List.map (encInt .u8).enc l = List.map (RK.svs [.int .u8]) (mkL l) := by
  unfold mkL
  rw [List.map_map, svs_mk]
def cknowsT : List M → (M → Prop) → Prop
  | [], K => K (.one (.v (.bool true)))
  | _, _ => False
theorem cknows_ok : POK Try.prog 39 cknowsT := by
  intro ms K h
  unfold cknowsT at h ⊢
  split at h
  · exact ⟨_, h, (cknows_spec), rfl, fun _ hk => hk⟩
  · exact h.elim

end Go.Proofs.Ytjdlefkpoggocaa
