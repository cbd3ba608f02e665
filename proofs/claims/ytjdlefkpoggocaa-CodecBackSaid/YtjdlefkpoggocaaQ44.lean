/- The document's bytes of an item. -/
import Derived.Test.YtjdlefkpoggocaaQ43
import Derived.Test.YtjdlefkpoggocaaWW
import Derived.Test.YtjdlefkpoggocaaSx24
namespace Go.Proofs.Ytjdlefkpoggocaa
open Go Go.Sx Go.Wide
set_option linter.unusedVariables false
set_option linter.unusedSimpArgs false
set_option maxRecDepth 100000
set_option maxHeartbeats 4000000

structure It where
  k : Int
  u : List Int
  w : List (List Int)
  h : List (List Int)
  b : List BTy
/-- What is written of it. -/
def itW (x : It) : List Int := bif decide (x.k = 0) then x.u.flatMap be8 else bif decide (x.k = 1) then x.w.flatMap fW else bif decide (x.k = 2) then x.h.flatMap fH else x.b.flatMap fB
structure ItOk (x : It) : Prop where
  u : x.u.length * 8 ≤ 140737488351232
  w : x.w.length * 32 ≤ 140737488351232
  wd : ∀ a ∈ x.w, L4 a
  h : x.h.length * 32 ≤ 140737488351232
  hl : ∀ a ∈ x.h, a.length = 32
  b : x.b.length * 24 ≤ 140737488351232
  bl : ∀ y ∈ x.b, y.1.2.length ≤ 140737488351232
abbrev itC (a b c d : Value) (x : It) : List SV := [.v (.int .i64 x.k), .view a 1 eU x.u, .view b 4 eW x.w, .view c 32 eH x.h, .view d 1 eBl x.b]
theorem fB_blb (y : BTy) : fB y = blb (bl y) := rfl
end Go.Proofs.Ytjdlefkpoggocaa
