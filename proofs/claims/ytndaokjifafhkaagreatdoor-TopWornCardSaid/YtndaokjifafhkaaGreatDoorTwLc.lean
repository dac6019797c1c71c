import Derived.Test.YtndaokjifafhkaaGreatDoorTwLb
import Derived.Test.YtndaokjifafhkaaGreatDoorTwKa
import Derived.Test.YtndaokjifafhkaaGreatDoorTwKc
import Derived.SevenTiedAt
/- plaittop.TopWorn: whatever the argument, the law returns true, and the argument reads as before. The nine listed package-level variables are tied to the program's text. -/
namespace Go.Proofs.YtndaokjifafhkaaGreatDoor
set_option linter.unusedSectionVars false
set_option linter.unusedSimpArgs false
set_option linter.unusedVariables false
set_option maxRecDepth 100000
open Go Go.Vm Go.Vx Go.ChangeShapes Go.WideShapes Go.ChangeAt Go.RowKit
open Go.Proofs.Tw
theorem topWorn_card_holds : Rows.TopWornCardSaid :=
  Claim7.holds_tied_plain_at .later [] [.data, .data, .data, .data, .handle, .sentinel, .sentinel, .data, .pinned] true (true, "52ea6e69649059ac2e5f2a50a07c1931608ba2f7494558ec19bf9aa035686186") true
    topWorn_row (fun _ h => by cases h) kf_wf (fun _ h => by cases h) topWorn_row_tie rfl ⟨rfl, rfl⟩ kf_main rfl
    (fun f fn hf hfn => by
      obtain rfl : f = 3 := Option.some.inj ((show Tryz.prog.funcNamed "plait/plaittop.TopWorn" = some 3 by kernel_rfl).symm.trans hf) |>.symm
      obtain rfl : fn = Tryz.f3 := (Option.some.inj (Tryz.func3.symm.trans hfn)).symm
      exact ⟨kf_looks, params_all (q := Tryz.prog.wantsStandIn) (by kernel_rfl)⟩)
    kf_goes
#print axioms topWorn_card_holds
end Go.Proofs.YtndaokjifafhkaaGreatDoor
