import Derived.Test.YtndaokjifafhkaaGreatDoorRows
import Derived.SevenTiedAt
import Derived.KernelRfl
namespace Go.Proofs.YtndaokjifafhkaaGreatDoor
set_option linter.unusedSectionVars false
set_option linter.unusedSimpArgs false
set_option linter.unusedVariables false
set_option maxRecDepth 100000
open Go
theorem kf_wf : Rows.topWornRow.wfByText (OpenSpec.ofChange Rows.topWornSpec) = true := by kernel_rfl
theorem kf_main : Tryz.pinned.checked.prog.mainIs = some (true, "52ea6e69649059ac2e5f2a50a07c1931608ba2f7494558ec19bf9aa035686186".toList) := by kernel_rfl
end Go.Proofs.YtndaokjifafhkaaGreatDoor

namespace Go.Proofs.YtndaokjifafhkaaGreatDoor
set_option linter.unusedSectionVars false
set_option linter.unusedSimpArgs false
set_option linter.unusedVariables false
set_option maxRecDepth 100000
open Go
theorem kf_looks : true = Tryz.prog.looks [] := by kernel_rfl
end Go.Proofs.YtndaokjifafhkaaGreatDoor
