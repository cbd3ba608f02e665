/- Digests, by the program and by the document. -/
import Derived.Test.YtblapbjafbmndaaDoorP4
import Derived.Test.YtblapbjafbmndaaDoorSx24
namespace Go.Proofs.YtblapbjafbmndaaDoor
open Go Go.Sx Go.Sha
set_option linter.unusedVariables false
set_option linter.unusedSimpArgs false
set_option maxRecDepth 100000
set_option maxHeartbeats 4000000

structure RsT (n : Nat) where
  i : Nat
  y : Value
  h : 64 * i ≤ n

theorem outStep (s : List Int) (i : Nat) (h : i < 32) : IntKind.i64.wrap (24 - IntKind.i64.wrap (8 * Int.tmod (i : Int) 4)) = ((24 - 8 * (i % 4) : Nat) : Int) := by
  have g2 : Int.tmod (i : Int) 4 = ((i % 4 : Nat) : Int) := rfl
  rw [g2, wrap64 (x := 8 * ((i % 4 : Nat) : Int)) (by omega) (by omega), wrap64 (by omega) (by omega)]
  omega
theorem quo4 (i : Nat) (h : i < 32) : IntKind.i64.wrap (Int.tdiv (i : Int) 4) = ((i / 4 : Nat) : Int) := by
  have g2 : Int.tdiv (i : Int) 4 = ((i / 4 : Nat) : Int) := rfl
  rw [g2, wrap64 (by omega) (by omega)]

/-- The digest of bytes. -/
theorem shaEx : ∃ f : List Int → List Int, f = sumF roundsL firstL := ⟨_, rfl⟩
noncomputable def shaF : List Int → List Int := Classical.choose shaEx
theorem shaF_eq (b : List Int) : shaF b = sumF roundsL firstL b := congrFun (Classical.choose_spec shaEx) b
theorem shaF_length (b : List Int) : (shaF b).length = 32 := by rw [shaF_eq]; exact sumF_length _ _ _
theorem shaF_By (b : List Int) : By (shaF b) := by rw [shaF_eq]; exact sumF_By _ _ _
end Go.Proofs.YtblapbjafbmndaaDoor
