import Derived.Test.YtndaokjifafhkaaGreatDoorTwLa
import Derived.Test.YtndaokjifafhkaaGreatDoorTwJ
import Derived.SevenTiedAt
/- plaittop.TopWorn: whatever the argument, the law returns true, and the argument reads as before. The nine listed package-level variables are tied to the program's text. -/
namespace Go.Proofs.YtndaokjifafhkaaGreatDoor
set_option linter.unusedSectionVars false
set_option linter.unusedSimpArgs false
set_option linter.unusedVariables false
set_option maxRecDepth 100000
open Go Go.Vm Go.Vx Go.ChangeShapes Go.WideShapes Go.ChangeAt Go.RowKit
open Go.Proofs.Tw
theorem topWorn_row : Rows.TopWornSaid :=
  OpenClaim.holds_of_wide 3 Tryz.f3 rfl rfl rfl rfl rfl rfl rfl ⟨rfl, rfl, rfl, rfl, rfl⟩ rfl rfl rfl rfl rfl (by kernel_rfl) Tryz.func3 joined
    (of_decide_eq_true (by kernel_rfl)) (by unfold Func.isWrapper; first | (rw [if_pos (by decide +kernel)]; kernel_rfl) | (rw [if_neg (by decide +kernel)]; exact ⟨rfl, rfl⟩))
    (fun os started H enc _ => topWorn_lifted os started H enc)
end Go.Proofs.YtndaokjifafhkaaGreatDoor
