/- Parts in memory of their own; digests of frames and of pairs; the law DigestFrames. -/
import Derived.Test.YtblapbjafbmndaaDoorP8
import Derived.Test.YtblapbjafbmndaaDoorSx24
namespace Go.Proofs.YtblapbjafbmndaaDoor
open Go Go.Sx Go.Sha
set_option linter.unusedVariables false
set_option linter.unusedSimpArgs false
set_option maxRecDepth 100000
set_option maxHeartbeats 4000000

/-- Rows with the same bytes. -/
structure PiT (l : List BTy) where
  i : Nat
  r : List BTy
  cap : Nat
  hi : i ≤ l.length
  hc : r.length ≤ cap
  he : r.map bl = (l.take i).map bl
structure PaT (l : List BTy) where
  y : Value
  r : List BTy
  he : r.map bl = l.map bl
theorem PiT.len {l : List BTy} (o : PiT l) : o.r.length = o.i := by
  have := congrArg List.length o.he
  have h := o.hi
  simp at this
  omega
theorem PaT.len {l : List BTy} (o : PaT l) : o.r.length = l.length := by have := congrArg List.length o.he; simpa using this
end Go.Proofs.YtblapbjafbmndaaDoor
