/-
  No cell of these rows narrows 'for every input' (looked for: loops, veiled, ifaces, maps, wideKeys, modest, calm, conditions, laid).
  DERIVED. THE GIVEN ROWS OF THIS SEAT. 3 by the template 'for every input the law returns true; each argument reads behind the call as it read before'; 0 by the template 'total and deterministic' (their statements: YtkjmlfbafmdegaaTotals.lean).
  GIVEN WITH THE SEED: the statements are not yours to turn. If you find one false, say at which input.
  Laid BY PROGRAM, IN A SANDBOX (cutbox-rows.mjs): the forced cells as the released guide's own fill.sh prints them over the translation 436328125875a35b… (all of the seat's roots in one cut). By AI agents, Wed Nov 11 2026. No macro, syntax, notation, axiom, sorry.
-/
import Derived.Test.YtkjmlfbafmdegaaChecked
import GoSem.Claim
import GoSem.ClaimJoined
import GoSem.ClaimMapViews
import Derived.JoinedTies
import Derived.KernelRfl
namespace Go.Proofs.Ytkjmlfbafmdegaa
/- THE CELL 'sum', in the pinned program and in every row, IS THE sha256 OF THE DUMP (.gsa) THAT YtkjmlfbafmdegaaProg.lean LOADS. Nothing in Lean hashes anything: it is a label: what it is worth is what the hold of that sum in a sandbox is worth. -/
noncomputable def Try.pinned : Pinned := { name := "ytkjmlfbafmdegaa", sum := "436328125875a35b2ce1aa1555c5c88ea23ad7923b44a9a1a58291e4cd1bab17", checked := Try.checked }
namespace Rows
def none {H : Type} : Left H := { results := [], args := [] }

/-- 'plaitlaw09.SpanLess': WHATEVER THE INPUT: true; the input reads as it did. -/
def spanLessSpec : ChangeSpec := { name := "spanLess", fn := fun _ => fun
  | [d1, d2, d3] => { results := [.lit (.bool true)], args := [d1, d2, d3] }
  | _ => none }
def spanLessRow : OpenClaim := { program := "ytkjmlfbafmdegaa", sum := "436328125875a35b2ce1aa1555c5c88ea23ad7923b44a9a1a58291e4cd1bab17", func := "plait/plaitlaw09.SpanLess", spec := "spanLess", unfollowed := true, recurses := true, apart := false }
def SpanLessSaid : Prop := spanLessRow.holds Try.pinned (OpenSpec.ofChange spanLessSpec)

/-- ITS FALSE NEIGHBOUR: 'it returns false'. Refute it at one input. -/
def spanLessWrong : ChangeSpec := { name := "spanLess", fn := fun _ => fun
  | [d1, d2, d3] => { results := [.lit (.bool false)], args := [d1, d2, d3] }
  | _ => none }
def SpanLessWrongFalsely : Prop := spanLessRow.holds Try.pinned (OpenSpec.ofChange spanLessWrong)

/-- 'plaitlaw09.SpanRest': WHATEVER THE INPUT: true; the input reads as it did. -/
def spanRestSpec : ChangeSpec := { name := "spanRest", fn := fun _ => fun
  | [d1, d2, d3] => { results := [.lit (.bool true)], args := [d1, d2, d3] }
  | _ => none }
def spanRestRow : OpenClaim := { program := "ytkjmlfbafmdegaa", sum := "436328125875a35b2ce1aa1555c5c88ea23ad7923b44a9a1a58291e4cd1bab17", func := "plait/plaitlaw09.SpanRest", spec := "spanRest", unfollowed := true, recurses := true, apart := false }
def SpanRestSaid : Prop := spanRestRow.holds Try.pinned (OpenSpec.ofChange spanRestSpec)

/-- ITS FALSE NEIGHBOUR: 'it returns false'. Refute it at one input. -/
def spanRestWrong : ChangeSpec := { name := "spanRest", fn := fun _ => fun
  | [d1, d2, d3] => { results := [.lit (.bool false)], args := [d1, d2, d3] }
  | _ => none }
def SpanRestWrongFalsely : Prop := spanRestRow.holds Try.pinned (OpenSpec.ofChange spanRestWrong)

/-- 'plaitlaw09.SpanMany': WHATEVER THE INPUT: true; the input reads as it did. -/
def spanManySpec : ChangeSpec := { name := "spanMany", fn := fun _ => fun
  | [d1, d2] => { results := [.lit (.bool true)], args := [d1, d2] }
  | _ => none }
def spanManyRow : OpenClaim := { program := "ytkjmlfbafmdegaa", sum := "436328125875a35b2ce1aa1555c5c88ea23ad7923b44a9a1a58291e4cd1bab17", func := "plait/plaitlaw09.SpanMany", spec := "spanMany", unfollowed := true, recurses := true, apart := false }
def SpanManySaid : Prop := spanManyRow.holds Try.pinned (OpenSpec.ofChange spanManySpec)

/-- ITS FALSE NEIGHBOUR: 'it returns false'. Refute it at one input. -/
def spanManyWrong : ChangeSpec := { name := "spanMany", fn := fun _ => fun
  | [d1, d2] => { results := [.lit (.bool false)], args := [d1, d2] }
  | _ => none }
def SpanManyWrongFalsely : Prop := spanManyRow.holds Try.pinned (OpenSpec.ofChange spanManyWrong)

/- THE SECOND FORM. 'bulk': how many values and letters a reading holds, each counted each time it is reached (what is shared counts as often as it is met; a slice's spare places count too). A statement '..UptoSaid' is the law's where the arguments, and the package variables that the reading takes, are together of bulk at most 1048576: NARROWER than '..Said'. Prove '..Said' where nothing that the law and all that it calls make is longer than what came in: it says more and counts as full. Else prove '..UptoSaid'. A law counts once. -/
mutual
def uptoBulk {H : Type} : DataW H → Nat
  | .lit (.string bytes) => bytes.length + 1
  | .lit _ => 1
  | .nil => 1
  | .ptr d => uptoBulk d + 1
  | .slice elems spare => uptoBulkAll elems + uptoBulkAll spare + 1
  | .agg parts => uptoBulkAll parts + 1
  | .iface _ d => uptoBulk d + 1
  | .map entries => uptoBulkEntries entries + 1
  | .held _ => 1
def uptoBulkAll {H : Type} : List (DataW H) → Nat
  | [] => 0
  | d :: r => uptoBulk d + uptoBulkAll r
def uptoBulkEntries {H : Type} : List (Lit × DataW H) → Nat
  | [] => 0
  | x :: r => uptoBulkEntry x + uptoBulkEntries r
def uptoBulkEntry {H : Type} : Lit × DataW H → Nat
  | (.string bytes, d) => bytes.length + uptoBulk d + 1
  | (_, d) => uptoBulk d + 1
 end
def uptoSmall : (H : Type) → List (DataW H) → Bool := fun _ ds => decide (uptoBulkAll ds ≤ 1048576)
def OpenSpec.upto (s : _root_.Go.ChangeSpec) : _root_.Go.OpenSpec := { _root_.Go.OpenSpec.ofChange s with cond := some uptoSmall }

/-- 'plaitlaw09.SpanLess', WHERE WHAT IT READS IS OF BULK AT MOST 1048576: true; the input reads as it did. -/
def spanLessUptoRow : OpenClaim := { program := "ytkjmlfbafmdegaa", sum := "436328125875a35b2ce1aa1555c5c88ea23ad7923b44a9a1a58291e4cd1bab17", func := "plait/plaitlaw09.SpanLess", spec := "spanLess", unfollowed := true, recurses := true, apart := false, narrowed := true }
def SpanLessUptoSaid : Prop := spanLessUptoRow.holds Try.pinned (OpenSpec.upto spanLessSpec)

/-- 'plaitlaw09.SpanRest', WHERE WHAT IT READS IS OF BULK AT MOST 1048576: true; the input reads as it did. -/
def spanRestUptoRow : OpenClaim := { program := "ytkjmlfbafmdegaa", sum := "436328125875a35b2ce1aa1555c5c88ea23ad7923b44a9a1a58291e4cd1bab17", func := "plait/plaitlaw09.SpanRest", spec := "spanRest", unfollowed := true, recurses := true, apart := false, narrowed := true }
def SpanRestUptoSaid : Prop := spanRestUptoRow.holds Try.pinned (OpenSpec.upto spanRestSpec)

/-- 'plaitlaw09.SpanMany', WHERE WHAT IT READS IS OF BULK AT MOST 1048576: true; the input reads as it did. -/
def spanManyUptoRow : OpenClaim := { program := "ytkjmlfbafmdegaa", sum := "436328125875a35b2ce1aa1555c5c88ea23ad7923b44a9a1a58291e4cd1bab17", func := "plait/plaitlaw09.SpanMany", spec := "spanMany", unfollowed := true, recurses := true, apart := false, narrowed := true }
def SpanManyUptoSaid : Prop := spanManyUptoRow.holds Try.pinned (OpenSpec.upto spanManySpec)

end Rows
end Go.Proofs.Ytkjmlfbafmdegaa
