/-
  DERIVED. GIVEN WITH THE SEED: THE CARDS: each row of YtflnpnpbcdmphaaDoorRows.lean that lists a variable, with what it lists TIED to the program's text (the seventh form; the later family's looks); each row that meets fmt, with fmt's text TOLD by the authors' own Lean function (tested against real Go, not proved from fmt's source: count such statements apart). THE CARD IS WHAT COUNTS. Prove the row's statement (the work); the ties are given (YtflnpnpbcdmphaaDoorTie.lean); close each card by the builder's one call (the guide's Derived/Test/ToyasCard.lean, 'card_holds'). Laid BY PROGRAM, IN A SANDBOX (cutbox-door.mjs). By AI agents, Wed Nov 11 2026. No macro, syntax, notation, axiom, sorry.
-/
import Derived.Test.YtflnpnpbcdmphaaDoorRows
import GoSem.ClaimSeven
namespace Go.Proofs.YtflnpnpbcdmphaaDoor
namespace Rows

/-- THE TIED CARD OF 'plaitlaw07.UniteRuns'. -/
def uniteRunsCard : Claim7 := { stood := { row := uniteRunsRow, standIns := [], harness := (true, "6e5d0f30256c82422af48996a3a32535e6f917f749b44f242fcd3b1c078f4635"), looks := true }, kinds := [], alts := [], laidByText := true, laidKinds := [.handle], laidTests := true, laidLooks := .later }
def UniteRunsCardSaid : Prop := Claim7.holds Tryd.pinned (.plain (OpenSpec.ofChange uniteRunsSpec)) uniteRunsCard

/-- THE TIED CARD OF 'plaitlaw07.UniteNew'. -/
def uniteNewCard : Claim7 := { stood := { row := uniteNewRow, standIns := [], harness := (true, "6e5d0f30256c82422af48996a3a32535e6f917f749b44f242fcd3b1c078f4635"), looks := true }, kinds := [], alts := [], laidByText := true, laidKinds := [.handle], laidTests := true, laidLooks := .later }
def UniteNewCardSaid : Prop := Claim7.holds Tryd.pinned (.plain (OpenSpec.ofChange uniteNewSpec)) uniteNewCard

/-- THE SECOND FORM's CARD OF 'plaitlaw07.UniteRuns'. -/
def uniteRunsUptoCard : Claim7 := { stood := { row := uniteRunsUptoRow, standIns := [], harness := (true, "6e5d0f30256c82422af48996a3a32535e6f917f749b44f242fcd3b1c078f4635"), looks := true }, kinds := [], alts := [], laidByText := true, laidKinds := [.handle], laidTests := true, laidLooks := .later }
def UniteRunsUptoCardSaid : Prop := Claim7.holds Tryd.pinned (.plain (OpenSpec.upto uniteRunsSpec)) uniteRunsUptoCard

/-- THE SECOND FORM's CARD OF 'plaitlaw07.UniteNew'. -/
def uniteNewUptoCard : Claim7 := { stood := { row := uniteNewUptoRow, standIns := [], harness := (true, "6e5d0f30256c82422af48996a3a32535e6f917f749b44f242fcd3b1c078f4635"), looks := true }, kinds := [], alts := [], laidByText := true, laidKinds := [.handle], laidTests := true, laidLooks := .later }
def UniteNewUptoCardSaid : Prop := Claim7.holds Tryd.pinned (.plain (OpenSpec.upto uniteNewSpec)) uniteNewUptoCard
end Rows
end Go.Proofs.YtflnpnpbcdmphaaDoor
