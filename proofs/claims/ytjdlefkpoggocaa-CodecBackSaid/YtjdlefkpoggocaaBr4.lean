/- Items: the arguments of the codec's laws. -/
import Derived.Test.YtjdlefkpoggocaaBr
import Derived.Test.YtjdlefkpoggocaaQ43
import Derived.Test.YtjdlefkpoggocaaQ46
namespace Go.Proofs.Ytjdlefkpoggocaa
open Go Go.Sx Go.ChangeShapes Go.WideShapes Go.ChangeAt Go.RowKit
set_option linter.unusedVariables false
set_option linter.unusedSimpArgs false
open Go.Wide in
theorem it_ok (y : ItV) (h : RK.goods IFs y) (w : RK.lights IFs y) : ItOk (it y) := by
  obtain ⟨_, gu, gw, gh, gb, _⟩ := h
  obtain ⟨_, wu, ww, wh, wb, _⟩ := w
  have e : reachBytes = 140737488351232 := rfl
  refine ⟨?_, ?_, fun a ha => ?_, ?_, fun a ha => ?_, ?_, fun z hz => ?_⟩
  · show ((lU y).map u1).length * 8 ≤ _
    rw [List.length_map]
    exact wu.1
  · show ((lW y).map w1).length * 32 ≤ _
    rw [List.length_map]
    exact ww.1
  · obtain ⟨p, hp, rfl⟩ := List.mem_map.1 ha
    exact l4_good (gw.2 p hp).1
  · show ((lH y).map h1).length * 32 ≤ _
    rw [List.length_map]
    exact wh.1
  · obtain ⟨p, hp, rfl⟩ := List.mem_map.1 ha
    exact (gh.2 p hp).1.1
  · exact wb.1
  · have h1 : List.length z.1.2 * 1 ≤ 140737488351232 := (wb.2 z hz).1.1
    omega
end Go.Proofs.Ytjdlefkpoggocaa
