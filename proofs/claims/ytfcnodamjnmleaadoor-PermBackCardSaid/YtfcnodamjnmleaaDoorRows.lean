/-
  NARROWER THAN 'FOR EVERY INPUT', by the rows' own cells (each row's printed sentence says how): PermCycles: laid · PermThrice: laid · PermTurned: laid · PermOrders: laid · PermOf: laid · PermBack: laid.
  DERIVED. THE GIVEN ROWS OF THIS SEAT. 6 by the template 'for every input the law returns true; each argument reads behind the call as it read before'; 0 by the template 'total and deterministic' (their statements: YtfcnodamjnmleaaDoorTotals.lean).
  GIVEN WITH THE SEED: the statements are not yours to turn. If you find one false, say at which input.
  Laid BY PROGRAM, IN A SANDBOX (cutbox-rows.mjs): the forced cells as the released guide's own fill.sh prints them over the translation 88043ec19245288b… (all of the seat's roots in one cut). By AI agents, Wed Nov 11 2026. No macro, syntax, notation, axiom, sorry.
-/
import Derived.Test.YtfcnodamjnmleaaDoorChecked
import GoSem.Claim
import GoSem.ClaimJoined
import GoSem.ClaimMapViews
import Derived.JoinedTies
import Derived.KernelRfl
namespace Go.Proofs.YtfcnodamjnmleaaDoor
/- THE CELL 'sum', in the pinned program and in every row, IS THE sha256 OF THE DUMP (.gsa) THAT YtfcnodamjnmleaaDoorProg.lean LOADS. Nothing in Lean hashes anything: it is a label: what it is worth is what the hold of that sum in a sandbox is worth. -/
noncomputable def Tryd.pinned : Pinned := { name := "ytfcnodamjnmleaadoor", sum := "88043ec19245288bab566d0f3194e9878a424da0ed658ed0159832cd0acc556a", checked := Tryd.checked }
namespace Rows
def none {H : Type} : Left H := { results := [], args := [] }

/- WHAT THE LISTED PACKAGE-LEVEL VARIABLES READ AS WHEN THE CALL BEGINS. Each datum BY PROGRAM (the guide's laid-datum.mjs) off the statement by which the dump's own 'gosem.cut.vars' lays the variable. In a bare row this is a premise. The card (YtfcnodamjnmleaaDoorCards.lean) ties it to the program's text. -/
def laid_errors_errorType {H : Type} : DataW H := .iface "internal/reflectlite.rtype" (.agg [.ptr (.lit (.string [101, 114, 114, 111, 114]))])

/-- 'plaitlaw08.PermCycles': WHATEVER THE INPUT: true; the input reads as it did. -/
def permCyclesSpec : ChangeSpec := { name := "permCycles", fn := fun _ => fun
  | [d1, d2] => { results := [.lit (.bool true)], args := [d1, d2] }
  | _ => none }
def permCyclesRow : OpenClaim := { program := "ytfcnodamjnmleaadoor", sum := "88043ec19245288bab566d0f3194e9878a424da0ed658ed0159832cd0acc556a", func := "plait/plaitlaw08.PermCycles", spec := "permCycles", inPlace := ["internal/reflectlite.ValueOf", "(internal/reflectlite.Value).Type", "(internal/reflectlite.Value).IsNil", "internal/reflectlite.TypeOf", "(internal/reflectlite.Value).Elem", "(internal/reflectlite.Value).Set"], unfollowed := true, recurses := true, named := ["errors.errorType"], apart := false, laid := [("errors.errorType", laid_errors_errorType)] }
def PermCyclesSaid : Prop := permCyclesRow.holds Tryd.pinned (OpenSpec.ofChange permCyclesSpec)

/-- ITS FALSE NEIGHBOUR: 'it returns false'. Refute it at one input. -/
def permCyclesWrong : ChangeSpec := { name := "permCycles", fn := fun _ => fun
  | [d1, d2] => { results := [.lit (.bool false)], args := [d1, d2] }
  | _ => none }
def PermCyclesWrongFalsely : Prop := permCyclesRow.holds Tryd.pinned (OpenSpec.ofChange permCyclesWrong)

/-- 'plaitlaw08.PermThrice': WHATEVER THE INPUT: true; the input reads as it did. -/
def permThriceSpec : ChangeSpec := { name := "permThrice", fn := fun _ => fun
  | [d1, d2, d3] => { results := [.lit (.bool true)], args := [d1, d2, d3] }
  | _ => none }
def permThriceRow : OpenClaim := { program := "ytfcnodamjnmleaadoor", sum := "88043ec19245288bab566d0f3194e9878a424da0ed658ed0159832cd0acc556a", func := "plait/plaitlaw08.PermThrice", spec := "permThrice", inPlace := ["internal/reflectlite.ValueOf", "(internal/reflectlite.Value).Type", "(internal/reflectlite.Value).IsNil", "internal/reflectlite.TypeOf", "(internal/reflectlite.Value).Elem", "(internal/reflectlite.Value).Set"], unfollowed := true, recurses := true, named := ["errors.errorType"], apart := false, laid := [("errors.errorType", laid_errors_errorType)] }
def PermThriceSaid : Prop := permThriceRow.holds Tryd.pinned (OpenSpec.ofChange permThriceSpec)

/-- ITS FALSE NEIGHBOUR: 'it returns false'. Refute it at one input. -/
def permThriceWrong : ChangeSpec := { name := "permThrice", fn := fun _ => fun
  | [d1, d2, d3] => { results := [.lit (.bool false)], args := [d1, d2, d3] }
  | _ => none }
def PermThriceWrongFalsely : Prop := permThriceRow.holds Tryd.pinned (OpenSpec.ofChange permThriceWrong)

/-- 'plaitlaw08.PermTurned': WHATEVER THE INPUT: true; the input reads as it did. -/
def permTurnedSpec : ChangeSpec := { name := "permTurned", fn := fun _ => fun
  | [d1, d2] => { results := [.lit (.bool true)], args := [d1, d2] }
  | _ => none }
def permTurnedRow : OpenClaim := { program := "ytfcnodamjnmleaadoor", sum := "88043ec19245288bab566d0f3194e9878a424da0ed658ed0159832cd0acc556a", func := "plait/plaitlaw08.PermTurned", spec := "permTurned", inPlace := ["internal/reflectlite.ValueOf", "(internal/reflectlite.Value).Type", "(internal/reflectlite.Value).IsNil", "internal/reflectlite.TypeOf", "(internal/reflectlite.Value).Elem", "(internal/reflectlite.Value).Set"], unfollowed := true, recurses := true, named := ["errors.errorType"], apart := false, laid := [("errors.errorType", laid_errors_errorType)] }
def PermTurnedSaid : Prop := permTurnedRow.holds Tryd.pinned (OpenSpec.ofChange permTurnedSpec)

/-- ITS FALSE NEIGHBOUR: 'it returns false'. Refute it at one input. -/
def permTurnedWrong : ChangeSpec := { name := "permTurned", fn := fun _ => fun
  | [d1, d2] => { results := [.lit (.bool false)], args := [d1, d2] }
  | _ => none }
def PermTurnedWrongFalsely : Prop := permTurnedRow.holds Tryd.pinned (OpenSpec.ofChange permTurnedWrong)

/-- 'plaitlaw08.PermOrders': WHATEVER THE INPUT: true; the input reads as it did. -/
def permOrdersSpec : ChangeSpec := { name := "permOrders", fn := fun _ => fun
  | [d1, d2] => { results := [.lit (.bool true)], args := [d1, d2] }
  | _ => none }
def permOrdersRow : OpenClaim := { program := "ytfcnodamjnmleaadoor", sum := "88043ec19245288bab566d0f3194e9878a424da0ed658ed0159832cd0acc556a", func := "plait/plaitlaw08.PermOrders", spec := "permOrders", inPlace := ["internal/reflectlite.ValueOf", "(internal/reflectlite.Value).Type", "(internal/reflectlite.Value).IsNil", "internal/reflectlite.TypeOf", "(internal/reflectlite.Value).Elem", "(internal/reflectlite.Value).Set"], unfollowed := true, recurses := true, named := ["errors.errorType"], apart := false, laid := [("errors.errorType", laid_errors_errorType)] }
def PermOrdersSaid : Prop := permOrdersRow.holds Tryd.pinned (OpenSpec.ofChange permOrdersSpec)

/-- ITS FALSE NEIGHBOUR: 'it returns false'. Refute it at one input. -/
def permOrdersWrong : ChangeSpec := { name := "permOrders", fn := fun _ => fun
  | [d1, d2] => { results := [.lit (.bool false)], args := [d1, d2] }
  | _ => none }
def PermOrdersWrongFalsely : Prop := permOrdersRow.holds Tryd.pinned (OpenSpec.ofChange permOrdersWrong)

/-- 'plaitlaw08.PermOf': WHATEVER THE INPUT: true; the input reads as it did. -/
def permOfSpec : ChangeSpec := { name := "permOf", fn := fun _ => fun
  | [d1, d2] => { results := [.lit (.bool true)], args := [d1, d2] }
  | _ => none }
def permOfRow : OpenClaim := { program := "ytfcnodamjnmleaadoor", sum := "88043ec19245288bab566d0f3194e9878a424da0ed658ed0159832cd0acc556a", func := "plait/plaitlaw08.PermOf", spec := "permOf", inPlace := ["internal/reflectlite.ValueOf", "(internal/reflectlite.Value).Type", "(internal/reflectlite.Value).IsNil", "internal/reflectlite.TypeOf", "(internal/reflectlite.Value).Elem", "(internal/reflectlite.Value).Set"], unfollowed := true, recurses := true, named := ["errors.errorType"], apart := false, laid := [("errors.errorType", laid_errors_errorType)] }
def PermOfSaid : Prop := permOfRow.holds Tryd.pinned (OpenSpec.ofChange permOfSpec)

/-- ITS FALSE NEIGHBOUR: 'it returns false'. Refute it at one input. -/
def permOfWrong : ChangeSpec := { name := "permOf", fn := fun _ => fun
  | [d1, d2] => { results := [.lit (.bool false)], args := [d1, d2] }
  | _ => none }
def PermOfWrongFalsely : Prop := permOfRow.holds Tryd.pinned (OpenSpec.ofChange permOfWrong)

/-- 'plaitlaw08.PermBack': WHATEVER THE INPUT: true; the input reads as it did. -/
def permBackSpec : ChangeSpec := { name := "permBack", fn := fun _ => fun
  | [d] => { results := [.lit (.bool true)], args := [d] }
  | _ => none }
def permBackRow : OpenClaim := { program := "ytfcnodamjnmleaadoor", sum := "88043ec19245288bab566d0f3194e9878a424da0ed658ed0159832cd0acc556a", func := "plait/plaitlaw08.PermBack", spec := "permBack", inPlace := ["internal/reflectlite.ValueOf", "(internal/reflectlite.Value).Type", "(internal/reflectlite.Value).IsNil", "internal/reflectlite.TypeOf", "(internal/reflectlite.Value).Elem", "(internal/reflectlite.Value).Set"], unfollowed := true, recurses := true, named := ["errors.errorType"], apart := false, laid := [("errors.errorType", laid_errors_errorType)] }
def PermBackSaid : Prop := permBackRow.holds Tryd.pinned (OpenSpec.ofChange permBackSpec)

/-- ITS FALSE NEIGHBOUR: 'it returns false'. Refute it at one input. -/
def permBackWrong : ChangeSpec := { name := "permBack", fn := fun _ => fun
  | [d] => { results := [.lit (.bool false)], args := [d] }
  | _ => none }
def PermBackWrongFalsely : Prop := permBackRow.holds Tryd.pinned (OpenSpec.ofChange permBackWrong)

/- THE SECOND FORM. 'bulk': how many values and letters a reading holds, each counted each time it is reached (what is shared counts as often as it is met; a slice's spare places count too). A statement '..UptoSaid' is the law's where the arguments, and the package variables that the reading takes, are together of bulk at most 1048576: NARROWER than '..Said'. Prove '..Said' where nothing that the law and all that it calls make is longer than what came in: it says more and counts as full. Else prove '..UptoSaid'. A law counts once. -/
mutual
def uptoBulk {H : Type} : DataW H → Nat
  | .lit (.string bytes) => bytes.length + 1
  | .lit _ => 1
  | .nil => 1
  | .ptr d => uptoBulk d + 1
  | .slice elems spare => uptoBulkAll elems + uptoBulkAll spare + 1
  | .agg parts => uptoBulkAll parts + 1
  | .iface _ d => uptoBulk d + 1
  | .map entries => uptoBulkEntries entries + 1
  | .held _ => 1
def uptoBulkAll {H : Type} : List (DataW H) → Nat
  | [] => 0
  | d :: r => uptoBulk d + uptoBulkAll r
def uptoBulkEntries {H : Type} : List (Lit × DataW H) → Nat
  | [] => 0
  | x :: r => uptoBulkEntry x + uptoBulkEntries r
def uptoBulkEntry {H : Type} : Lit × DataW H → Nat
  | (.string bytes, d) => bytes.length + uptoBulk d + 1
  | (_, d) => uptoBulk d + 1
 end
def uptoSmall : (H : Type) → List (DataW H) → Bool := fun _ ds => decide (uptoBulkAll ds ≤ 1048576)
def OpenSpec.upto (s : _root_.Go.ChangeSpec) : _root_.Go.OpenSpec := { _root_.Go.OpenSpec.ofChange s with cond := some uptoSmall }

/-- 'plaitlaw08.PermCycles', WHERE WHAT IT READS IS OF BULK AT MOST 1048576: true; the input reads as it did. -/
def permCyclesUptoRow : OpenClaim := { program := "ytfcnodamjnmleaadoor", sum := "88043ec19245288bab566d0f3194e9878a424da0ed658ed0159832cd0acc556a", func := "plait/plaitlaw08.PermCycles", spec := "permCycles", inPlace := ["internal/reflectlite.ValueOf", "(internal/reflectlite.Value).Type", "(internal/reflectlite.Value).IsNil", "internal/reflectlite.TypeOf", "(internal/reflectlite.Value).Elem", "(internal/reflectlite.Value).Set"], unfollowed := true, recurses := true, named := ["errors.errorType"], apart := false, laid := [("errors.errorType", laid_errors_errorType)], narrowed := true }
def PermCyclesUptoSaid : Prop := permCyclesUptoRow.holds Tryd.pinned (OpenSpec.upto permCyclesSpec)

/-- 'plaitlaw08.PermThrice', WHERE WHAT IT READS IS OF BULK AT MOST 1048576: true; the input reads as it did. -/
def permThriceUptoRow : OpenClaim := { program := "ytfcnodamjnmleaadoor", sum := "88043ec19245288bab566d0f3194e9878a424da0ed658ed0159832cd0acc556a", func := "plait/plaitlaw08.PermThrice", spec := "permThrice", inPlace := ["internal/reflectlite.ValueOf", "(internal/reflectlite.Value).Type", "(internal/reflectlite.Value).IsNil", "internal/reflectlite.TypeOf", "(internal/reflectlite.Value).Elem", "(internal/reflectlite.Value).Set"], unfollowed := true, recurses := true, named := ["errors.errorType"], apart := false, laid := [("errors.errorType", laid_errors_errorType)], narrowed := true }
def PermThriceUptoSaid : Prop := permThriceUptoRow.holds Tryd.pinned (OpenSpec.upto permThriceSpec)

/-- 'plaitlaw08.PermTurned', WHERE WHAT IT READS IS OF BULK AT MOST 1048576: true; the input reads as it did. -/
def permTurnedUptoRow : OpenClaim := { program := "ytfcnodamjnmleaadoor", sum := "88043ec19245288bab566d0f3194e9878a424da0ed658ed0159832cd0acc556a", func := "plait/plaitlaw08.PermTurned", spec := "permTurned", inPlace := ["internal/reflectlite.ValueOf", "(internal/reflectlite.Value).Type", "(internal/reflectlite.Value).IsNil", "internal/reflectlite.TypeOf", "(internal/reflectlite.Value).Elem", "(internal/reflectlite.Value).Set"], unfollowed := true, recurses := true, named := ["errors.errorType"], apart := false, laid := [("errors.errorType", laid_errors_errorType)], narrowed := true }
def PermTurnedUptoSaid : Prop := permTurnedUptoRow.holds Tryd.pinned (OpenSpec.upto permTurnedSpec)

/-- 'plaitlaw08.PermOrders', WHERE WHAT IT READS IS OF BULK AT MOST 1048576: true; the input reads as it did. -/
def permOrdersUptoRow : OpenClaim := { program := "ytfcnodamjnmleaadoor", sum := "88043ec19245288bab566d0f3194e9878a424da0ed658ed0159832cd0acc556a", func := "plait/plaitlaw08.PermOrders", spec := "permOrders", inPlace := ["internal/reflectlite.ValueOf", "(internal/reflectlite.Value).Type", "(internal/reflectlite.Value).IsNil", "internal/reflectlite.TypeOf", "(internal/reflectlite.Value).Elem", "(internal/reflectlite.Value).Set"], unfollowed := true, recurses := true, named := ["errors.errorType"], apart := false, laid := [("errors.errorType", laid_errors_errorType)], narrowed := true }
def PermOrdersUptoSaid : Prop := permOrdersUptoRow.holds Tryd.pinned (OpenSpec.upto permOrdersSpec)

/-- 'plaitlaw08.PermOf', WHERE WHAT IT READS IS OF BULK AT MOST 1048576: true; the input reads as it did. -/
def permOfUptoRow : OpenClaim := { program := "ytfcnodamjnmleaadoor", sum := "88043ec19245288bab566d0f3194e9878a424da0ed658ed0159832cd0acc556a", func := "plait/plaitlaw08.PermOf", spec := "permOf", inPlace := ["internal/reflectlite.ValueOf", "(internal/reflectlite.Value).Type", "(internal/reflectlite.Value).IsNil", "internal/reflectlite.TypeOf", "(internal/reflectlite.Value).Elem", "(internal/reflectlite.Value).Set"], unfollowed := true, recurses := true, named := ["errors.errorType"], apart := false, laid := [("errors.errorType", laid_errors_errorType)], narrowed := true }
def PermOfUptoSaid : Prop := permOfUptoRow.holds Tryd.pinned (OpenSpec.upto permOfSpec)

/-- 'plaitlaw08.PermBack', WHERE WHAT IT READS IS OF BULK AT MOST 1048576: true; the input reads as it did. -/
def permBackUptoRow : OpenClaim := { program := "ytfcnodamjnmleaadoor", sum := "88043ec19245288bab566d0f3194e9878a424da0ed658ed0159832cd0acc556a", func := "plait/plaitlaw08.PermBack", spec := "permBack", inPlace := ["internal/reflectlite.ValueOf", "(internal/reflectlite.Value).Type", "(internal/reflectlite.Value).IsNil", "internal/reflectlite.TypeOf", "(internal/reflectlite.Value).Elem", "(internal/reflectlite.Value).Set"], unfollowed := true, recurses := true, named := ["errors.errorType"], apart := false, laid := [("errors.errorType", laid_errors_errorType)], narrowed := true }
def PermBackUptoSaid : Prop := permBackUptoRow.holds Tryd.pinned (OpenSpec.upto permBackSpec)

end Rows
end Go.Proofs.YtfcnodamjnmleaaDoor
