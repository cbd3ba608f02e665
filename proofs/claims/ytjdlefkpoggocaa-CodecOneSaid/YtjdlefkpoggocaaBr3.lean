/- The codec's laws: their arguments. -/
import Derived.Test.YtjdlefkpoggocaaBr
import Derived.Test.YtjdlefkpoggocaaQ43
namespace Go.Proofs.Ytjdlefkpoggocaa
open Go Go.Sx Go.ChangeShapes Go.WideShapes Go.ChangeAt Go.RowKit
set_option linter.unusedVariables false
set_option linter.unusedSimpArgs false
open Go.Wide in
theorem dig_good {b : List Int} (hg : ∀ y ∈ b, 0 ≤ y ∧ y ≤ 255) : Dig 256 b := fun y hy => by
  have := hg y hy
  have : ((256 : Nat) : Int) = 256 := rfl
  omega
open Go.Wide in
theorem one' (x0 : Value) (a : List Int) (x1 : Value) (b : List Int) (x2 : Value) (c : List Int) (x3 : Value) (d : List Int) (_ : a.length ≤ maxLen) (ha : ∀ y ∈ a, 0 ≤ y ∧ y ≤ 255) (_ : a.length * 1 ≤ 140737488351232)
    (_ : b.length ≤ maxLen) (hb : ∀ y ∈ b, 0 ≤ y ∧ y ≤ 255) (_ : b.length * 1 ≤ 140737488351232) (_ : c.length ≤ maxLen) (hc : ∀ y ∈ c, 0 ≤ y ∧ y ≤ 255) (_ : c.length * 1 ≤ 140737488351232)
    (_ : d.length ≤ maxLen) (hd : ∀ y ∈ d, 0 ≤ y ∧ y ≤ 255) (_ : d.length * 1 ≤ 140737488351232) : SFun Try.prog 10 [byV x0 a, byV x1 b, byV x2 c, byV x3 d] (bool true) :=
  one_spec x0 x1 x2 x3 (dig_good ha) (dig_good hb) (dig_good hc) (dig_good hd)
end Go.Proofs.Ytjdlefkpoggocaa
