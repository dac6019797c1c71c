/-
  NARROWER THAN 'FOR EVERY INPUT', by the rows' own cells (each row's printed sentence says how): CmdEncodes: laid · CmdDecodes: laid · CmdBack: laid · CmdSizes: laid · CmdCodes: laid.
  DERIVED. THE GIVEN ROWS OF THIS SEAT. 5 by the template 'for every input the law returns true; each argument reads behind the call as it read before'; 0 by the template 'total and deterministic' (their statements: YtopjkgappjgjnaaDoorTotals.lean).
  GIVEN WITH THE SEED: the statements are not yours to turn. If you find one false, say at which input.
  Laid BY PROGRAM, IN A SANDBOX (cutbox-rows.mjs): the forced cells as the released guide's own fill.sh prints them over the translation bddbbe73f3bd26a5… (all of the seat's roots in one cut). By AI agents, Wed Nov 11 2026. No macro, syntax, notation, axiom, sorry.
-/
import Derived.Test.YtopjkgappjgjnaaDoorChecked
import GoSem.Claim
import GoSem.ClaimJoined
import GoSem.ClaimMapViews
import Derived.JoinedTies
import Derived.KernelRfl
namespace Go.Proofs.YtopjkgappjgjnaaDoor
/- THE CELL 'sum', in the pinned program and in every row, IS THE sha256 OF THE DUMP (.gsa) THAT YtopjkgappjgjnaaDoorProg.lean LOADS. Nothing in Lean hashes anything: it is a label: what it is worth is what the hold of that sum in a sandbox is worth. -/
noncomputable def Tryd.pinned : Pinned := { name := "ytopjkgappjgjnaadoor", sum := "bddbbe73f3bd26a5124ed896bec95c472472a5ed597ba365832a748cb246c752", checked := Tryd.checked }
namespace Rows
def none {H : Type} : Left H := { results := [], args := [] }

/- WHAT THE LISTED PACKAGE-LEVEL VARIABLES READ AS WHEN THE CALL BEGINS. Each datum BY PROGRAM (the guide's laid-datum.mjs) off the statement by which the dump's own 'gosem.cut.vars' lays the variable. In a bare row this is a premise. The card (YtopjkgappjgjnaaDoorCards.lean) ties it to the program's text. -/
def laid_errors_errorType {H : Type} : DataW H := .iface "internal/reflectlite.rtype" (.agg [.ptr (.lit (.string [101, 114, 114, 111, 114]))])

/-- 'plaitlaw19.CmdEncodes': WHATEVER THE INPUT: true; the input reads as it did. -/
def cmdEncodesSpec : ChangeSpec := { name := "cmdEncodes", fn := fun _ => fun
  | [d] => { results := [.lit (.bool true)], args := [d] }
  | _ => none }
def cmdEncodesRow : OpenClaim := { program := "ytopjkgappjgjnaadoor", sum := "bddbbe73f3bd26a5124ed896bec95c472472a5ed597ba365832a748cb246c752", func := "plait/plaitlaw19.CmdEncodes", spec := "cmdEncodes", inPlace := ["internal/reflectlite.ValueOf", "(internal/reflectlite.Value).Type", "(internal/reflectlite.Value).IsNil", "internal/reflectlite.TypeOf", "(internal/reflectlite.Value).Elem", "(internal/reflectlite.Value).Set"], unfollowed := true, recurses := true, named := ["errors.errorType"], apart := false, laid := [("errors.errorType", laid_errors_errorType)] }
def CmdEncodesSaid : Prop := cmdEncodesRow.holds Tryd.pinned (OpenSpec.ofChange cmdEncodesSpec)

/-- ITS FALSE NEIGHBOUR: 'it returns false'. Refute it at one input. -/
def cmdEncodesWrong : ChangeSpec := { name := "cmdEncodes", fn := fun _ => fun
  | [d] => { results := [.lit (.bool false)], args := [d] }
  | _ => none }
def CmdEncodesWrongFalsely : Prop := cmdEncodesRow.holds Tryd.pinned (OpenSpec.ofChange cmdEncodesWrong)

/-- 'plaitlaw19.CmdDecodes': WHATEVER THE INPUT: true; the input reads as it did. -/
def cmdDecodesSpec : ChangeSpec := { name := "cmdDecodes", fn := fun _ => fun
  | [d] => { results := [.lit (.bool true)], args := [d] }
  | _ => none }
def cmdDecodesRow : OpenClaim := { program := "ytopjkgappjgjnaadoor", sum := "bddbbe73f3bd26a5124ed896bec95c472472a5ed597ba365832a748cb246c752", func := "plait/plaitlaw19.CmdDecodes", spec := "cmdDecodes", inPlace := ["internal/reflectlite.ValueOf", "(internal/reflectlite.Value).Type", "(internal/reflectlite.Value).IsNil", "internal/reflectlite.TypeOf", "(internal/reflectlite.Value).Elem", "(internal/reflectlite.Value).Set"], unfollowed := true, recurses := true, named := ["errors.errorType"], apart := false, laid := [("errors.errorType", laid_errors_errorType)] }
def CmdDecodesSaid : Prop := cmdDecodesRow.holds Tryd.pinned (OpenSpec.ofChange cmdDecodesSpec)

/-- ITS FALSE NEIGHBOUR: 'it returns false'. Refute it at one input. -/
def cmdDecodesWrong : ChangeSpec := { name := "cmdDecodes", fn := fun _ => fun
  | [d] => { results := [.lit (.bool false)], args := [d] }
  | _ => none }
def CmdDecodesWrongFalsely : Prop := cmdDecodesRow.holds Tryd.pinned (OpenSpec.ofChange cmdDecodesWrong)

/-- 'plaitlaw19.CmdBack': WHATEVER THE INPUT: true; the input reads as it did. -/
def cmdBackSpec : ChangeSpec := { name := "cmdBack", fn := fun _ => fun
  | [d1, d2] => { results := [.lit (.bool true)], args := [d1, d2] }
  | _ => none }
def cmdBackRow : OpenClaim := { program := "ytopjkgappjgjnaadoor", sum := "bddbbe73f3bd26a5124ed896bec95c472472a5ed597ba365832a748cb246c752", func := "plait/plaitlaw19.CmdBack", spec := "cmdBack", inPlace := ["internal/reflectlite.ValueOf", "(internal/reflectlite.Value).Type", "(internal/reflectlite.Value).IsNil", "internal/reflectlite.TypeOf", "(internal/reflectlite.Value).Elem", "(internal/reflectlite.Value).Set"], unfollowed := true, recurses := true, named := ["errors.errorType"], apart := false, laid := [("errors.errorType", laid_errors_errorType)] }
def CmdBackSaid : Prop := cmdBackRow.holds Tryd.pinned (OpenSpec.ofChange cmdBackSpec)

/-- ITS FALSE NEIGHBOUR: 'it returns false'. Refute it at one input. -/
def cmdBackWrong : ChangeSpec := { name := "cmdBack", fn := fun _ => fun
  | [d1, d2] => { results := [.lit (.bool false)], args := [d1, d2] }
  | _ => none }
def CmdBackWrongFalsely : Prop := cmdBackRow.holds Tryd.pinned (OpenSpec.ofChange cmdBackWrong)

/-- 'plaitlaw19.CmdSizes': WHATEVER THE INPUT: true; the input reads as it did. -/
def cmdSizesSpec : ChangeSpec := { name := "cmdSizes", fn := fun _ => fun
  | [d] => { results := [.lit (.bool true)], args := [d] }
  | _ => none }
def cmdSizesRow : OpenClaim := { program := "ytopjkgappjgjnaadoor", sum := "bddbbe73f3bd26a5124ed896bec95c472472a5ed597ba365832a748cb246c752", func := "plait/plaitlaw19.CmdSizes", spec := "cmdSizes", inPlace := ["internal/reflectlite.ValueOf", "(internal/reflectlite.Value).Type", "(internal/reflectlite.Value).IsNil", "internal/reflectlite.TypeOf", "(internal/reflectlite.Value).Elem", "(internal/reflectlite.Value).Set"], unfollowed := true, recurses := true, named := ["errors.errorType"], apart := false, laid := [("errors.errorType", laid_errors_errorType)] }
def CmdSizesSaid : Prop := cmdSizesRow.holds Tryd.pinned (OpenSpec.ofChange cmdSizesSpec)

/-- ITS FALSE NEIGHBOUR: 'it returns false'. Refute it at one input. -/
def cmdSizesWrong : ChangeSpec := { name := "cmdSizes", fn := fun _ => fun
  | [d] => { results := [.lit (.bool false)], args := [d] }
  | _ => none }
def CmdSizesWrongFalsely : Prop := cmdSizesRow.holds Tryd.pinned (OpenSpec.ofChange cmdSizesWrong)

/-- 'plaitlaw19.CmdCodes': WHATEVER THE INPUT: true; the input reads as it did. -/
def cmdCodesSpec : ChangeSpec := { name := "cmdCodes", fn := fun _ => fun
  | [d1, d2] => { results := [.lit (.bool true)], args := [d1, d2] }
  | _ => none }
def cmdCodesRow : OpenClaim := { program := "ytopjkgappjgjnaadoor", sum := "bddbbe73f3bd26a5124ed896bec95c472472a5ed597ba365832a748cb246c752", func := "plait/plaitlaw19.CmdCodes", spec := "cmdCodes", inPlace := ["internal/reflectlite.ValueOf", "(internal/reflectlite.Value).Type", "(internal/reflectlite.Value).IsNil", "internal/reflectlite.TypeOf", "(internal/reflectlite.Value).Elem", "(internal/reflectlite.Value).Set"], unfollowed := true, recurses := true, named := ["errors.errorType"], apart := false, laid := [("errors.errorType", laid_errors_errorType)] }
def CmdCodesSaid : Prop := cmdCodesRow.holds Tryd.pinned (OpenSpec.ofChange cmdCodesSpec)

/-- ITS FALSE NEIGHBOUR: 'it returns false'. Refute it at one input. -/
def cmdCodesWrong : ChangeSpec := { name := "cmdCodes", fn := fun _ => fun
  | [d1, d2] => { results := [.lit (.bool false)], args := [d1, d2] }
  | _ => none }
def CmdCodesWrongFalsely : Prop := cmdCodesRow.holds Tryd.pinned (OpenSpec.ofChange cmdCodesWrong)

/- THE SECOND FORM. 'bulk': how many values and letters a reading holds, each counted each time it is reached (what is shared counts as often as it is met; a slice's spare places count too). A statement '..UptoSaid' is the law's where the arguments, and the package variables that the reading takes, are together of bulk at most 1048576: NARROWER than '..Said'. Prove '..Said' where nothing that the law and all that it calls make is longer than what came in: it says more and counts as full. Else prove '..UptoSaid'. A law counts once. -/
mutual
def uptoBulk {H : Type} : DataW H → Nat
  | .lit (.string bytes) => bytes.length + 1
  | .lit _ => 1
  | .nil => 1
  | .ptr d => uptoBulk d + 1
  | .slice elems spare => uptoBulkAll elems + uptoBulkAll spare + 1
  | .agg parts => uptoBulkAll parts + 1
  | .iface _ d => uptoBulk d + 1
  | .map entries => uptoBulkEntries entries + 1
  | .held _ => 1
def uptoBulkAll {H : Type} : List (DataW H) → Nat
  | [] => 0
  | d :: r => uptoBulk d + uptoBulkAll r
def uptoBulkEntries {H : Type} : List (Lit × DataW H) → Nat
  | [] => 0
  | x :: r => uptoBulkEntry x + uptoBulkEntries r
def uptoBulkEntry {H : Type} : Lit × DataW H → Nat
  | (.string bytes, d) => bytes.length + uptoBulk d + 1
  | (_, d) => uptoBulk d + 1
 end
def uptoSmall : (H : Type) → List (DataW H) → Bool := fun _ ds => decide (uptoBulkAll ds ≤ 1048576)
def OpenSpec.upto (s : _root_.Go.ChangeSpec) : _root_.Go.OpenSpec := { _root_.Go.OpenSpec.ofChange s with cond := some uptoSmall }

/-- 'plaitlaw19.CmdEncodes', WHERE WHAT IT READS IS OF BULK AT MOST 1048576: true; the input reads as it did. -/
def cmdEncodesUptoRow : OpenClaim := { program := "ytopjkgappjgjnaadoor", sum := "bddbbe73f3bd26a5124ed896bec95c472472a5ed597ba365832a748cb246c752", func := "plait/plaitlaw19.CmdEncodes", spec := "cmdEncodes", inPlace := ["internal/reflectlite.ValueOf", "(internal/reflectlite.Value).Type", "(internal/reflectlite.Value).IsNil", "internal/reflectlite.TypeOf", "(internal/reflectlite.Value).Elem", "(internal/reflectlite.Value).Set"], unfollowed := true, recurses := true, named := ["errors.errorType"], apart := false, laid := [("errors.errorType", laid_errors_errorType)], narrowed := true }
def CmdEncodesUptoSaid : Prop := cmdEncodesUptoRow.holds Tryd.pinned (OpenSpec.upto cmdEncodesSpec)

/-- 'plaitlaw19.CmdDecodes', WHERE WHAT IT READS IS OF BULK AT MOST 1048576: true; the input reads as it did. -/
def cmdDecodesUptoRow : OpenClaim := { program := "ytopjkgappjgjnaadoor", sum := "bddbbe73f3bd26a5124ed896bec95c472472a5ed597ba365832a748cb246c752", func := "plait/plaitlaw19.CmdDecodes", spec := "cmdDecodes", inPlace := ["internal/reflectlite.ValueOf", "(internal/reflectlite.Value).Type", "(internal/reflectlite.Value).IsNil", "internal/reflectlite.TypeOf", "(internal/reflectlite.Value).Elem", "(internal/reflectlite.Value).Set"], unfollowed := true, recurses := true, named := ["errors.errorType"], apart := false, laid := [("errors.errorType", laid_errors_errorType)], narrowed := true }
def CmdDecodesUptoSaid : Prop := cmdDecodesUptoRow.holds Tryd.pinned (OpenSpec.upto cmdDecodesSpec)

/-- 'plaitlaw19.CmdBack', WHERE WHAT IT READS IS OF BULK AT MOST 1048576: true; the input reads as it did. -/
def cmdBackUptoRow : OpenClaim := { program := "ytopjkgappjgjnaadoor", sum := "bddbbe73f3bd26a5124ed896bec95c472472a5ed597ba365832a748cb246c752", func := "plait/plaitlaw19.CmdBack", spec := "cmdBack", inPlace := ["internal/reflectlite.ValueOf", "(internal/reflectlite.Value).Type", "(internal/reflectlite.Value).IsNil", "internal/reflectlite.TypeOf", "(internal/reflectlite.Value).Elem", "(internal/reflectlite.Value).Set"], unfollowed := true, recurses := true, named := ["errors.errorType"], apart := false, laid := [("errors.errorType", laid_errors_errorType)], narrowed := true }
def CmdBackUptoSaid : Prop := cmdBackUptoRow.holds Tryd.pinned (OpenSpec.upto cmdBackSpec)

/-- 'plaitlaw19.CmdSizes', WHERE WHAT IT READS IS OF BULK AT MOST 1048576: true; the input reads as it did. -/
def cmdSizesUptoRow : OpenClaim := { program := "ytopjkgappjgjnaadoor", sum := "bddbbe73f3bd26a5124ed896bec95c472472a5ed597ba365832a748cb246c752", func := "plait/plaitlaw19.CmdSizes", spec := "cmdSizes", inPlace := ["internal/reflectlite.ValueOf", "(internal/reflectlite.Value).Type", "(internal/reflectlite.Value).IsNil", "internal/reflectlite.TypeOf", "(internal/reflectlite.Value).Elem", "(internal/reflectlite.Value).Set"], unfollowed := true, recurses := true, named := ["errors.errorType"], apart := false, laid := [("errors.errorType", laid_errors_errorType)], narrowed := true }
def CmdSizesUptoSaid : Prop := cmdSizesUptoRow.holds Tryd.pinned (OpenSpec.upto cmdSizesSpec)

/-- 'plaitlaw19.CmdCodes', WHERE WHAT IT READS IS OF BULK AT MOST 1048576: true; the input reads as it did. -/
def cmdCodesUptoRow : OpenClaim := { program := "ytopjkgappjgjnaadoor", sum := "bddbbe73f3bd26a5124ed896bec95c472472a5ed597ba365832a748cb246c752", func := "plait/plaitlaw19.CmdCodes", spec := "cmdCodes", inPlace := ["internal/reflectlite.ValueOf", "(internal/reflectlite.Value).Type", "(internal/reflectlite.Value).IsNil", "internal/reflectlite.TypeOf", "(internal/reflectlite.Value).Elem", "(internal/reflectlite.Value).Set"], unfollowed := true, recurses := true, named := ["errors.errorType"], apart := false, laid := [("errors.errorType", laid_errors_errorType)], narrowed := true }
def CmdCodesUptoSaid : Prop := cmdCodesUptoRow.holds Tryd.pinned (OpenSpec.upto cmdCodesSpec)

end Rows
end Go.Proofs.YtopjkgappjgjnaaDoor
