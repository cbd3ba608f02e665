/- The law MachineEnds. -/
import Derived.Test.YtgbikcniediomaaP9
import Derived.Test.YtgbikcniediomaaMM
import Derived.Test.YtgbikcniediomaaSx24
namespace Go.Proofs.Ytgbikcniediomaa
open Go Go.Sx Go.Mach
set_option linter.unusedVariables false
set_option linter.unusedSimpArgs false
set_option maxRecDepth 100000
set_option maxHeartbeats 4000000

theorem wrapTm {gas : Int} (hg : 0 ≤ gas) : 0 ≤ gas.tmod 200 ∧ gas.tmod 200 < 200 := by
  rw [Int.tmod_eq_emod_of_nonneg hg]
  omega
theorem okSt0 (gas : Int) (wd : List Int) : okSt ⟨0, gas, 0, 0, [], wd⟩ := .inl ⟨rfl, rfl⟩
end Go.Proofs.Ytgbikcniediomaa
