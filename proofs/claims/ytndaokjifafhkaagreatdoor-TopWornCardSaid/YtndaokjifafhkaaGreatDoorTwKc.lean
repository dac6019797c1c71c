import Derived.Test.YtndaokjifafhkaaGreatDoorRows
import Derived.SevenTiedAt
import Derived.KernelRfl
/- No body of the program holds a go statement. -/
namespace Go.Proofs.YtndaokjifafhkaaGreatDoor
set_option linter.unusedSectionVars false
set_option linter.unusedSimpArgs false
set_option linter.unusedVariables false
set_option maxRecDepth 100000
open Go
theorem kf_all : (Tryz.prog.funcs.toList.all fun fn => !fn.goes) = true := by kernel_rfl
theorem goes_none {P : Program} (h : (P.funcs.toList.all fun fn => !fn.goes) = true) (f : FuncId) : P.goes f = false := by
  have h1 : ∀ fn ∈ P.funcs.toList, fn.goes = false := fun fn hfn => by simpa using List.all_eq_true.1 h fn hfn
  unfold Program.goes
  rw [Bool.or_eq_false_iff]
  constructor
  · rw [List.any_eq_false]
    intro g _
    cases e : P.funcs[g]? with
    | none => simp
    | some fn =>
      have : fn ∈ P.funcs.toList := by
        rw [← Array.getElem?_toList] at e
        exact List.mem_of_getElem? e
      simp [h1 fn this]
  · have : P.funcs.any Func.goes = false := by
      rw [← Array.any_toList, List.any_eq_false]
      intro fn hfn
      simp [h1 fn hfn]
    rw [this, Bool.and_false]
theorem kf_goes : false = Rows.topWornRow.goesBy Tryz.prog := by
  unfold OpenClaim.goesBy Program.goesAt Program.goesFrom
  cases e : Tryz.prog.funcNamed Rows.topWornRow.func with
  | none => rfl
  | some f =>
    rw [Option.any_some, goes_none kf_all f]
    rfl
end Go.Proofs.YtndaokjifafhkaaGreatDoor
