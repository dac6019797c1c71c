/-
  DERIVED. GIVEN WITH THE SEED: THE CARDS: each row of YtphfhbhdpkekmaaDoorRows.lean that lists a variable, with what it lists TIED to the program's text (the seventh form; the later family's looks); each row that meets fmt, with fmt's text TOLD by the authors' own Lean function (tested against real Go, not proved from fmt's source: count such statements apart). THE CARD IS WHAT COUNTS. Prove the row's statement (the work); the ties are given (YtphfhbhdpkekmaaDoorTie.lean); close each card by the builder's one call (the guide's Derived/Test/ToyasCard.lean, 'card_holds'). Laid BY PROGRAM, IN A SANDBOX (cutbox-door.mjs). By AI agents, Wed Nov 11 2026. No macro, syntax, notation, axiom, sorry.
-/
import Derived.Test.YtphfhbhdpkekmaaDoorRows
import GoSem.ClaimSeven
namespace Go.Proofs.YtphfhbhdpkekmaaDoor
namespace Rows

/-- THE TIED CARD OF 'plaitlaw13.EdgesFar'. -/
def edgesFarCard : Claim7 := { stood := { row := edgesFarRow, standIns := [], harness := (true, "cb95a854e333af6972825caa9219fd0967b4413ff87105d1f34234601c27c001"), looks := true }, kinds := [], alts := [], laidByText := true, laidKinds := [.handle], laidTests := true, laidLooks := .later }
def EdgesFarCardSaid : Prop := Claim7.holds Tryd.pinned (.plain (OpenSpec.ofChange edgesFarSpec)) edgesFarCard

/-- THE TIED CARD OF 'plaitlaw13.EdgesKeys'. -/
def edgesKeysCard : Claim7 := { stood := { row := edgesKeysRow, standIns := [], harness := (true, "cb95a854e333af6972825caa9219fd0967b4413ff87105d1f34234601c27c001"), looks := true }, kinds := [], alts := [], laidByText := true, laidKinds := [.handle], laidTests := true, laidLooks := .later }
def EdgesKeysCardSaid : Prop := Claim7.holds Tryd.pinned (.plain (OpenSpec.ofChange edgesKeysSpec)) edgesKeysCard

/-- THE SECOND FORM's CARD OF 'plaitlaw13.EdgesFar'. -/
def edgesFarUptoCard : Claim7 := { stood := { row := edgesFarUptoRow, standIns := [], harness := (true, "cb95a854e333af6972825caa9219fd0967b4413ff87105d1f34234601c27c001"), looks := true }, kinds := [], alts := [], laidByText := true, laidKinds := [.handle], laidTests := true, laidLooks := .later }
def EdgesFarUptoCardSaid : Prop := Claim7.holds Tryd.pinned (.plain (OpenSpec.upto edgesFarSpec)) edgesFarUptoCard

/-- THE SECOND FORM's CARD OF 'plaitlaw13.EdgesKeys'. -/
def edgesKeysUptoCard : Claim7 := { stood := { row := edgesKeysUptoRow, standIns := [], harness := (true, "cb95a854e333af6972825caa9219fd0967b4413ff87105d1f34234601c27c001"), looks := true }, kinds := [], alts := [], laidByText := true, laidKinds := [.handle], laidTests := true, laidLooks := .later }
def EdgesKeysUptoCardSaid : Prop := Claim7.holds Tryd.pinned (.plain (OpenSpec.upto edgesKeysSpec)) edgesKeysUptoCard
end Rows
end Go.Proofs.YtphfhbhdpkekmaaDoor
