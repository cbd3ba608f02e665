/- The laws of proofs as the bridge takes them. -/
import Derived.Test.YtblapbjafbmndaaDoorBr2
import Derived.Test.YtblapbjafbmndaaDoorPL3
namespace Go.Sx
open Go.ChangeShapes Go.WideShapes Go.ChangeAt Go.RowKit
section
variable {H : Type} {enc : TypeId × Value → H} {P : Program} {w : World} {base : Nat} {spare : Nat → Bool} {held : Bool}
end
end Go.Sx
namespace Go.Proofs.YtblapbjafbmndaaDoor
open Go Go.Sx Go.ChangeShapes Go.WideShapes Go.ChangeAt Go.RowKit Go.Sha
set_option linter.unusedVariables false
set_option linter.unusedSimpArgs false
set_option maxHeartbeats 4000000
set_option maxRecDepth 100000
theorem lroots' (x : Value) (l : List BTy) (n : Int) (_ : l.length ≤ maxLen) (hg : ∀ y ∈ l, By (bl y) ∧ (bl y).length ≤ 140737488351232) (hs : l.length * 24 ≤ 140737488351232) (_ : RK.good (.int .i64) n) : SFun Tryd.prog 9 [bV x l, int n] (bool true) :=
  roots_law x l n hs (fun y hy => by have := (hg y hy).2; rw [bl_length] at this; exact this) (fun y hy => (hg y hy).1)
end Go.Proofs.YtblapbjafbmndaaDoor
