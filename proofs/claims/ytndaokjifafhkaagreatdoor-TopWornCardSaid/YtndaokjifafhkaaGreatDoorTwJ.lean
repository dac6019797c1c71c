import Derived.Test.YtndaokjifafhkaaGreatDoorTwJinPlace
import Derived.Test.YtndaokjifafhkaaGreatDoorTwJunfollowed
import Derived.Test.YtndaokjifafhkaaGreatDoorTwJrecurses
import Derived.Test.YtndaokjifafhkaaGreatDoorTwJnamed
/- The closed facts of the row. -/
namespace Go.Proofs.YtndaokjifafhkaaGreatDoor
set_option linter.unusedSectionVars false
set_option linter.unusedSimpArgs false
set_option linter.unusedVariables false
set_option maxRecDepth 100000
open Go
theorem joined : joinedFacts Tryz.prog 3 Tryz.f3 Rows.topWornSpec Rows.topWornRow = true := by
  unfold joinedFacts
  simp only [Bool.and_eq_true]
  exact ⟨⟨⟨⟨⟨⟨⟨⟨⟨⟨⟨⟨⟨⟨⟨⟨⟨⟨⟨⟨⟨⟨⟨⟨⟨⟨⟨⟨⟨⟨⟨by kernel_rfl, by kernel_rfl⟩, by kernel_rfl⟩, by kernel_rfl⟩, by kernel_rfl⟩, by kernel_rfl⟩, by kernel_rfl⟩, by kernel_rfl⟩, by kernel_rfl⟩, jf_inPlace⟩, jf_unfollowed⟩, jf_recurses⟩, jf_named⟩, by kernel_rfl⟩, by kernel_rfl⟩, by kernel_rfl⟩, by kernel_rfl⟩, by kernel_rfl⟩, by kernel_rfl⟩, by kernel_rfl⟩, by kernel_rfl⟩, by kernel_rfl⟩, by kernel_rfl⟩, by kernel_rfl⟩, by kernel_rfl⟩, by kernel_rfl⟩, by kernel_rfl⟩, by kernel_rfl⟩, by kernel_rfl⟩, by kernel_rfl⟩, by kernel_rfl⟩, by kernel_rfl⟩
end Go.Proofs.YtndaokjifafhkaaGreatDoor
