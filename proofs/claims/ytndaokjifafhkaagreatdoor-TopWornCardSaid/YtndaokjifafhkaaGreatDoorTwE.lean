import Derived.Test.YtndaokjifafhkaaGreatDoorTwTab
import Derived.Test.YtndaokjifafhkaaGreatDoorVxB
namespace Go.Proofs.Tw
set_option linter.unusedSectionVars false
set_option linter.unusedSimpArgs false
set_option linter.unusedVariables false
open Go Go.Vm Go.Vx
set_option maxRecDepth 100000
theorem x112 : Extern.find Tryz.f112 = some (Extern.Atomic.loadT (.int .u32)) := by kernel_rfl
theorem x112n : Extern.findNext Tryz.f112 = none := by kernel_rfl
theorem x112b : Tryz.f112.body = none := by kernel_rfl
theorem x112m : (Tryz.f112.name == "runtime.NumGoroutine") = false := by kernel_rfl
theorem x264 : Extern.find Tryz.f264 = some (Extern.Atomic.loadT (.int .i64)) := by kernel_rfl
theorem x203 : Extern.find Tryz.f203 = some (Extern.Atomic.update (Op.intArith .add) .i64 true) := by kernel_rfl
end Go.Proofs.Tw
