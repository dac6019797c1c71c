/-
  DERIVED. GIVEN WITH THE SEED: THE CARDS: each row of YtopjkgappjgjnaaDoorRows.lean that lists a variable, with what it lists TIED to the program's text (the seventh form; the later family's looks); each row that meets fmt, with fmt's text TOLD by the authors' own Lean function (tested against real Go, not proved from fmt's source: count such statements apart). THE CARD IS WHAT COUNTS. Prove the row's statement (the work); the ties are given (YtopjkgappjgjnaaDoorTie.lean); close each card by the builder's one call (the guide's Derived/Test/ToyasCard.lean, 'card_holds'). Laid BY PROGRAM, IN A SANDBOX (cutbox-door.mjs). By AI agents, Wed Nov 11 2026. No macro, syntax, notation, axiom, sorry.
-/
import Derived.Test.YtopjkgappjgjnaaDoorRows
import GoSem.ClaimSeven
namespace Go.Proofs.YtopjkgappjgjnaaDoor
namespace Rows

/-- THE TIED CARD OF 'plaitlaw19.CmdEncodes'. -/
def cmdEncodesCard : Claim7 := { stood := { row := cmdEncodesRow, standIns := [], harness := (true, "224ab7081a45d54e2fdfb559b3b90347ebf3d930ccdcb6c9421e0f500ad5c6ed"), looks := true }, kinds := [], alts := [], laidByText := true, laidKinds := [.handle], laidTests := true, laidLooks := .later }
def CmdEncodesCardSaid : Prop := Claim7.holds Tryd.pinned (.plain (OpenSpec.ofChange cmdEncodesSpec)) cmdEncodesCard

/-- THE TIED CARD OF 'plaitlaw19.CmdDecodes'. -/
def cmdDecodesCard : Claim7 := { stood := { row := cmdDecodesRow, standIns := [], harness := (true, "224ab7081a45d54e2fdfb559b3b90347ebf3d930ccdcb6c9421e0f500ad5c6ed"), looks := true }, kinds := [], alts := [], laidByText := true, laidKinds := [.handle], laidTests := true, laidLooks := .later }
def CmdDecodesCardSaid : Prop := Claim7.holds Tryd.pinned (.plain (OpenSpec.ofChange cmdDecodesSpec)) cmdDecodesCard

/-- THE TIED CARD OF 'plaitlaw19.CmdBack'. -/
def cmdBackCard : Claim7 := { stood := { row := cmdBackRow, standIns := [], harness := (true, "224ab7081a45d54e2fdfb559b3b90347ebf3d930ccdcb6c9421e0f500ad5c6ed"), looks := true }, kinds := [], alts := [], laidByText := true, laidKinds := [.handle], laidTests := true, laidLooks := .later }
def CmdBackCardSaid : Prop := Claim7.holds Tryd.pinned (.plain (OpenSpec.ofChange cmdBackSpec)) cmdBackCard

/-- THE TIED CARD OF 'plaitlaw19.CmdSizes'. -/
def cmdSizesCard : Claim7 := { stood := { row := cmdSizesRow, standIns := [], harness := (true, "224ab7081a45d54e2fdfb559b3b90347ebf3d930ccdcb6c9421e0f500ad5c6ed"), looks := true }, kinds := [], alts := [], laidByText := true, laidKinds := [.handle], laidTests := true, laidLooks := .later }
def CmdSizesCardSaid : Prop := Claim7.holds Tryd.pinned (.plain (OpenSpec.ofChange cmdSizesSpec)) cmdSizesCard

/-- THE TIED CARD OF 'plaitlaw19.CmdCodes'. -/
def cmdCodesCard : Claim7 := { stood := { row := cmdCodesRow, standIns := [], harness := (true, "224ab7081a45d54e2fdfb559b3b90347ebf3d930ccdcb6c9421e0f500ad5c6ed"), looks := true }, kinds := [], alts := [], laidByText := true, laidKinds := [.handle], laidTests := true, laidLooks := .later }
def CmdCodesCardSaid : Prop := Claim7.holds Tryd.pinned (.plain (OpenSpec.ofChange cmdCodesSpec)) cmdCodesCard

/-- THE SECOND FORM's CARD OF 'plaitlaw19.CmdEncodes'. -/
def cmdEncodesUptoCard : Claim7 := { stood := { row := cmdEncodesUptoRow, standIns := [], harness := (true, "224ab7081a45d54e2fdfb559b3b90347ebf3d930ccdcb6c9421e0f500ad5c6ed"), looks := true }, kinds := [], alts := [], laidByText := true, laidKinds := [.handle], laidTests := true, laidLooks := .later }
def CmdEncodesUptoCardSaid : Prop := Claim7.holds Tryd.pinned (.plain (OpenSpec.upto cmdEncodesSpec)) cmdEncodesUptoCard

/-- THE SECOND FORM's CARD OF 'plaitlaw19.CmdDecodes'. -/
def cmdDecodesUptoCard : Claim7 := { stood := { row := cmdDecodesUptoRow, standIns := [], harness := (true, "224ab7081a45d54e2fdfb559b3b90347ebf3d930ccdcb6c9421e0f500ad5c6ed"), looks := true }, kinds := [], alts := [], laidByText := true, laidKinds := [.handle], laidTests := true, laidLooks := .later }
def CmdDecodesUptoCardSaid : Prop := Claim7.holds Tryd.pinned (.plain (OpenSpec.upto cmdDecodesSpec)) cmdDecodesUptoCard

/-- THE SECOND FORM's CARD OF 'plaitlaw19.CmdBack'. -/
def cmdBackUptoCard : Claim7 := { stood := { row := cmdBackUptoRow, standIns := [], harness := (true, "224ab7081a45d54e2fdfb559b3b90347ebf3d930ccdcb6c9421e0f500ad5c6ed"), looks := true }, kinds := [], alts := [], laidByText := true, laidKinds := [.handle], laidTests := true, laidLooks := .later }
def CmdBackUptoCardSaid : Prop := Claim7.holds Tryd.pinned (.plain (OpenSpec.upto cmdBackSpec)) cmdBackUptoCard

/-- THE SECOND FORM's CARD OF 'plaitlaw19.CmdSizes'. -/
def cmdSizesUptoCard : Claim7 := { stood := { row := cmdSizesUptoRow, standIns := [], harness := (true, "224ab7081a45d54e2fdfb559b3b90347ebf3d930ccdcb6c9421e0f500ad5c6ed"), looks := true }, kinds := [], alts := [], laidByText := true, laidKinds := [.handle], laidTests := true, laidLooks := .later }
def CmdSizesUptoCardSaid : Prop := Claim7.holds Tryd.pinned (.plain (OpenSpec.upto cmdSizesSpec)) cmdSizesUptoCard

/-- THE SECOND FORM's CARD OF 'plaitlaw19.CmdCodes'. -/
def cmdCodesUptoCard : Claim7 := { stood := { row := cmdCodesUptoRow, standIns := [], harness := (true, "224ab7081a45d54e2fdfb559b3b90347ebf3d930ccdcb6c9421e0f500ad5c6ed"), looks := true }, kinds := [], alts := [], laidByText := true, laidKinds := [.handle], laidTests := true, laidLooks := .later }
def CmdCodesUptoCardSaid : Prop := Claim7.holds Tryd.pinned (.plain (OpenSpec.upto cmdCodesSpec)) cmdCodesUptoCard
end Rows
end Go.Proofs.YtopjkgappjgjnaaDoor
