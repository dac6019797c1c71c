/-
  DERIVED. GIVEN WITH THE SEED: THE CARDS: each row of YtkjmlfbafmdegaaDoorRows.lean that lists a variable, with what it lists TIED to the program's text (the seventh form; the later family's looks); each row that meets fmt, with fmt's text TOLD by the authors' own Lean function (tested against real Go, not proved from fmt's source: count such statements apart). THE CARD IS WHAT COUNTS. Prove the row's statement (the work); the ties are given (YtkjmlfbafmdegaaDoorTie.lean); close each card by the builder's one call (the guide's Derived/Test/ToyasCard.lean, 'card_holds'). Laid BY PROGRAM, IN A SANDBOX (cutbox-door.mjs). By AI agents, Wed Nov 11 2026. No macro, syntax, notation, axiom, sorry.
-/
import Derived.Test.YtkjmlfbafmdegaaDoorRows
import GoSem.ClaimSeven
namespace Go.Proofs.YtkjmlfbafmdegaaDoor
namespace Rows

/-- THE TIED CARD OF 'plaitlaw09.SpanTrees'. -/
def spanTreesCard : Claim7 := { stood := { row := spanTreesRow, standIns := [], harness := (true, "9216e0363a9f103dee6ab26e1f104959bcb862399df494fc28d50a0d5b644f14"), looks := true }, kinds := [], alts := [], laidByText := true, laidKinds := [.handle], laidTests := true, laidLooks := .later }
def SpanTreesCardSaid : Prop := Claim7.holds Tryd.pinned (.plain (OpenSpec.ofChange spanTreesSpec)) spanTreesCard

/-- THE TIED CARD OF 'plaitlaw09.SpanLeasts'. -/
def spanLeastsCard : Claim7 := { stood := { row := spanLeastsRow, standIns := [], harness := (true, "9216e0363a9f103dee6ab26e1f104959bcb862399df494fc28d50a0d5b644f14"), looks := true }, kinds := [], alts := [], laidByText := true, laidKinds := [.handle], laidTests := true, laidLooks := .later }
def SpanLeastsCardSaid : Prop := Claim7.holds Tryd.pinned (.plain (OpenSpec.ofChange spanLeastsSpec)) spanLeastsCard

/-- THE SECOND FORM's CARD OF 'plaitlaw09.SpanTrees'. -/
def spanTreesUptoCard : Claim7 := { stood := { row := spanTreesUptoRow, standIns := [], harness := (true, "9216e0363a9f103dee6ab26e1f104959bcb862399df494fc28d50a0d5b644f14"), looks := true }, kinds := [], alts := [], laidByText := true, laidKinds := [.handle], laidTests := true, laidLooks := .later }
def SpanTreesUptoCardSaid : Prop := Claim7.holds Tryd.pinned (.plain (OpenSpec.upto spanTreesSpec)) spanTreesUptoCard

/-- THE SECOND FORM's CARD OF 'plaitlaw09.SpanLeasts'. -/
def spanLeastsUptoCard : Claim7 := { stood := { row := spanLeastsUptoRow, standIns := [], harness := (true, "9216e0363a9f103dee6ab26e1f104959bcb862399df494fc28d50a0d5b644f14"), looks := true }, kinds := [], alts := [], laidByText := true, laidKinds := [.handle], laidTests := true, laidLooks := .later }
def SpanLeastsUptoCardSaid : Prop := Claim7.holds Tryd.pinned (.plain (OpenSpec.upto spanLeastsSpec)) spanLeastsUptoCard
end Rows
end Go.Proofs.YtkjmlfbafmdegaaDoor
