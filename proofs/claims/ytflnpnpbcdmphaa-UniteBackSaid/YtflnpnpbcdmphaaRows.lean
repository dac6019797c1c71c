/-
  No cell of these rows narrows 'for every input' (looked for: loops, veiled, ifaces, maps, wideKeys, modest, calm, conditions, laid).
  DERIVED. THE GIVEN ROWS OF THIS SEAT. 3 by the template 'for every input the law returns true; each argument reads behind the call as it read before'; 0 by the template 'total and deterministic' (their statements: YtflnpnpbcdmphaaTotals.lean).
  GIVEN WITH THE SEED: the statements are not yours to turn. If you find one false, say at which input.
  Laid BY PROGRAM, IN A SANDBOX (cutbox-rows.mjs): the forced cells as the released guide's own fill.sh prints them over the translation 792ed1b24809ae44… (all of the seat's roots in one cut). By AI agents, Wed Nov 11 2026. No macro, syntax, notation, axiom, sorry.
-/
import Derived.Test.YtflnpnpbcdmphaaChecked
import GoSem.Claim
import GoSem.ClaimJoined
import GoSem.ClaimMapViews
import Derived.JoinedTies
import Derived.KernelRfl
namespace Go.Proofs.Ytflnpnpbcdmphaa
/- THE CELL 'sum', in the pinned program and in every row, IS THE sha256 OF THE DUMP (.gsa) THAT YtflnpnpbcdmphaaProg.lean LOADS. Nothing in Lean hashes anything: it is a label: what it is worth is what the hold of that sum in a sandbox is worth. -/
noncomputable def Try.pinned : Pinned := { name := "ytflnpnpbcdmphaa", sum := "792ed1b24809ae4487961ca1e0edeebce6398fd4cd9265d7065f89545071bee2", checked := Try.checked }
namespace Rows
def none {H : Type} : Left H := { results := [], args := [] }

/-- 'plaitlaw07.UniteSame': WHATEVER THE INPUT: true; the input reads as it did. -/
def uniteSameSpec : ChangeSpec := { name := "uniteSame", fn := fun _ => fun
  | [d1, d2, d3] => { results := [.lit (.bool true)], args := [d1, d2, d3] }
  | _ => none }
def uniteSameRow : OpenClaim := { program := "ytflnpnpbcdmphaa", sum := "792ed1b24809ae4487961ca1e0edeebce6398fd4cd9265d7065f89545071bee2", func := "plait/plaitlaw07.UniteSame", spec := "uniteSame", apart := false }
def UniteSameSaid : Prop := uniteSameRow.holds Try.pinned (OpenSpec.ofChange uniteSameSpec)

/-- ITS FALSE NEIGHBOUR: 'it returns false'. Refute it at one input. -/
def uniteSameWrong : ChangeSpec := { name := "uniteSame", fn := fun _ => fun
  | [d1, d2, d3] => { results := [.lit (.bool false)], args := [d1, d2, d3] }
  | _ => none }
def UniteSameWrongFalsely : Prop := uniteSameRow.holds Try.pinned (OpenSpec.ofChange uniteSameWrong)

/-- 'plaitlaw07.UniteBack': WHATEVER THE INPUT: true; the input reads as it did. -/
def uniteBackSpec : ChangeSpec := { name := "uniteBack", fn := fun _ => fun
  | [d1, d2, d3] => { results := [.lit (.bool true)], args := [d1, d2, d3] }
  | _ => none }
def uniteBackRow : OpenClaim := { program := "ytflnpnpbcdmphaa", sum := "792ed1b24809ae4487961ca1e0edeebce6398fd4cd9265d7065f89545071bee2", func := "plait/plaitlaw07.UniteBack", spec := "uniteBack", apart := false }
def UniteBackSaid : Prop := uniteBackRow.holds Try.pinned (OpenSpec.ofChange uniteBackSpec)

/-- ITS FALSE NEIGHBOUR: 'it returns false'. Refute it at one input. -/
def uniteBackWrong : ChangeSpec := { name := "uniteBack", fn := fun _ => fun
  | [d1, d2, d3] => { results := [.lit (.bool false)], args := [d1, d2, d3] }
  | _ => none }
def UniteBackWrongFalsely : Prop := uniteBackRow.holds Try.pinned (OpenSpec.ofChange uniteBackWrong)

/-- 'plaitlaw07.UniteSizes': WHATEVER THE INPUT: true; the input reads as it did. -/
def uniteSizesSpec : ChangeSpec := { name := "uniteSizes", fn := fun _ => fun
  | [d1, d2] => { results := [.lit (.bool true)], args := [d1, d2] }
  | _ => none }
def uniteSizesRow : OpenClaim := { program := "ytflnpnpbcdmphaa", sum := "792ed1b24809ae4487961ca1e0edeebce6398fd4cd9265d7065f89545071bee2", func := "plait/plaitlaw07.UniteSizes", spec := "uniteSizes", apart := false }
def UniteSizesSaid : Prop := uniteSizesRow.holds Try.pinned (OpenSpec.ofChange uniteSizesSpec)

/-- ITS FALSE NEIGHBOUR: 'it returns false'. Refute it at one input. -/
def uniteSizesWrong : ChangeSpec := { name := "uniteSizes", fn := fun _ => fun
  | [d1, d2] => { results := [.lit (.bool false)], args := [d1, d2] }
  | _ => none }
def UniteSizesWrongFalsely : Prop := uniteSizesRow.holds Try.pinned (OpenSpec.ofChange uniteSizesWrong)

/- THE SECOND FORM. 'bulk': how many values and letters a reading holds, each counted each time it is reached (what is shared counts as often as it is met; a slice's spare places count too). A statement '..UptoSaid' is the law's where the arguments, and the package variables that the reading takes, are together of bulk at most 1048576: NARROWER than '..Said'. Prove '..Said' where nothing that the law and all that it calls make is longer than what came in: it says more and counts as full. Else prove '..UptoSaid'. A law counts once. -/
mutual
def uptoBulk {H : Type} : DataW H → Nat
  | .lit (.string bytes) => bytes.length + 1
  | .lit _ => 1
  | .nil => 1
  | .ptr d => uptoBulk d + 1
  | .slice elems spare => uptoBulkAll elems + uptoBulkAll spare + 1
  | .agg parts => uptoBulkAll parts + 1
  | .iface _ d => uptoBulk d + 1
  | .map entries => uptoBulkEntries entries + 1
  | .held _ => 1
def uptoBulkAll {H : Type} : List (DataW H) → Nat
  | [] => 0
  | d :: r => uptoBulk d + uptoBulkAll r
def uptoBulkEntries {H : Type} : List (Lit × DataW H) → Nat
  | [] => 0
  | x :: r => uptoBulkEntry x + uptoBulkEntries r
def uptoBulkEntry {H : Type} : Lit × DataW H → Nat
  | (.string bytes, d) => bytes.length + uptoBulk d + 1
  | (_, d) => uptoBulk d + 1
 end
def uptoSmall : (H : Type) → List (DataW H) → Bool := fun _ ds => decide (uptoBulkAll ds ≤ 1048576)
def OpenSpec.upto (s : _root_.Go.ChangeSpec) : _root_.Go.OpenSpec := { _root_.Go.OpenSpec.ofChange s with cond := some uptoSmall }

/-- 'plaitlaw07.UniteSame', WHERE WHAT IT READS IS OF BULK AT MOST 1048576: true; the input reads as it did. -/
def uniteSameUptoRow : OpenClaim := { program := "ytflnpnpbcdmphaa", sum := "792ed1b24809ae4487961ca1e0edeebce6398fd4cd9265d7065f89545071bee2", func := "plait/plaitlaw07.UniteSame", spec := "uniteSame", apart := false, narrowed := true }
def UniteSameUptoSaid : Prop := uniteSameUptoRow.holds Try.pinned (OpenSpec.upto uniteSameSpec)

/-- 'plaitlaw07.UniteBack', WHERE WHAT IT READS IS OF BULK AT MOST 1048576: true; the input reads as it did. -/
def uniteBackUptoRow : OpenClaim := { program := "ytflnpnpbcdmphaa", sum := "792ed1b24809ae4487961ca1e0edeebce6398fd4cd9265d7065f89545071bee2", func := "plait/plaitlaw07.UniteBack", spec := "uniteBack", apart := false, narrowed := true }
def UniteBackUptoSaid : Prop := uniteBackUptoRow.holds Try.pinned (OpenSpec.upto uniteBackSpec)

/-- 'plaitlaw07.UniteSizes', WHERE WHAT IT READS IS OF BULK AT MOST 1048576: true; the input reads as it did. -/
def uniteSizesUptoRow : OpenClaim := { program := "ytflnpnpbcdmphaa", sum := "792ed1b24809ae4487961ca1e0edeebce6398fd4cd9265d7065f89545071bee2", func := "plait/plaitlaw07.UniteSizes", spec := "uniteSizes", apart := false, narrowed := true }
def UniteSizesUptoSaid : Prop := uniteSizesUptoRow.holds Try.pinned (OpenSpec.upto uniteSizesSpec)

end Rows
end Go.Proofs.Ytflnpnpbcdmphaa
