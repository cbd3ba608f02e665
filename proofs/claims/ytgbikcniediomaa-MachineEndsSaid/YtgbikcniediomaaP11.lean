/- The law MachineGas. -/
import Derived.Test.YtgbikcniediomaaP10
import Derived.Test.YtgbikcniediomaaSx24
namespace Go.Proofs.Ytgbikcniediomaa
open Go Go.Sx Go.Mach
set_option linter.unusedVariables false
set_option linter.unusedSimpArgs false
set_option maxRecDepth 100000
set_option maxHeartbeats 4000000

abbrev gs (gas : Int) : MS := ⟨0, gas, 0, 0, [], List.replicate 16 0⟩
abbrev cc (c : Ctx) : Ctx := ⟨c.caller, c.value, c.input⟩
end Go.Proofs.Ytgbikcniediomaa
