import Derived.Test.YtndaokjifafhkaaGreatDoorTwU
import Derived.KernelRfl
namespace Go.Proofs.Tw
set_option linter.unusedSectionVars false
set_option linter.unusedSimpArgs false
set_option linter.unusedVariables false
set_option maxRecDepth 1000000
theorem run_2 : mainK 2 = true := by kernel_rfl
end Go.Proofs.Tw
