/- What must come; bytes with marked room behind them; the law DigestSums. -/
import Derived.Test.YtblapbjafbmndaaDoorP7
import Derived.Test.YtblapbjafbmndaaDoorSx24
namespace Go.Proofs.YtblapbjafbmndaaDoor
open Go Go.Sx Go.Sha
set_option linter.unusedVariables false
set_option linter.unusedSimpArgs false
set_option maxRecDepth 100000
set_option maxHeartbeats 4000000

structure CapT (n : Nat) where
  cap : Nat
  h : n ≤ cap
def lentT : MT := fun ms n h K => match ms with
  | [.one (.view vx0 ve0 en0 vl0)] => bif Nat.beq ve0 1 && noDup [] then ∃ l : List (Int), vl0.map en0 = l.map eB ∧ (l.length ≤ 140737488351232) ∧ (∀ c : CapT (l.length + 2), K (n + 1) (.one (.slc n 1 0 l.length c.cap)) ([(n, .row 1 (encInt .u8) (l ++ [55, 56]) c.cap)] ++ delL [] h)) else False
  | _ => False
end Go.Proofs.YtblapbjafbmndaaDoor
