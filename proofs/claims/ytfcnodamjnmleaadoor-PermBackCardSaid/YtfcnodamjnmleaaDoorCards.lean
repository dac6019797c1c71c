/-
  DERIVED. GIVEN WITH THE SEED: THE CARDS: each row of YtfcnodamjnmleaaDoorRows.lean that lists a variable, with what it lists TIED to the program's text (the seventh form; the later family's looks); each row that meets fmt, with fmt's text TOLD by the authors' own Lean function (tested against real Go, not proved from fmt's source: count such statements apart). THE CARD IS WHAT COUNTS. Prove the row's statement (the work); the ties are given (YtfcnodamjnmleaaDoorTie.lean); close each card by the builder's one call (the guide's Derived/Test/ToyasCard.lean, 'card_holds'). Laid BY PROGRAM, IN A SANDBOX (cutbox-door.mjs). By AI agents, Wed Nov 11 2026. No macro, syntax, notation, axiom, sorry.
-/
import Derived.Test.YtfcnodamjnmleaaDoorRows
import GoSem.ClaimSeven
namespace Go.Proofs.YtfcnodamjnmleaaDoor
namespace Rows

/-- THE TIED CARD OF 'plaitlaw08.PermCycles'. -/
def permCyclesCard : Claim7 := { stood := { row := permCyclesRow, standIns := [], harness := (true, "79ef7a8f454b2f45882c25f07e13e1407b565f63afa9b64d4a53df446a8ae040"), looks := true }, kinds := [], alts := [], laidByText := true, laidKinds := [.handle], laidTests := true, laidLooks := .later }
def PermCyclesCardSaid : Prop := Claim7.holds Tryd.pinned (.plain (OpenSpec.ofChange permCyclesSpec)) permCyclesCard

/-- THE TIED CARD OF 'plaitlaw08.PermThrice'. -/
def permThriceCard : Claim7 := { stood := { row := permThriceRow, standIns := [], harness := (true, "79ef7a8f454b2f45882c25f07e13e1407b565f63afa9b64d4a53df446a8ae040"), looks := true }, kinds := [], alts := [], laidByText := true, laidKinds := [.handle], laidTests := true, laidLooks := .later }
def PermThriceCardSaid : Prop := Claim7.holds Tryd.pinned (.plain (OpenSpec.ofChange permThriceSpec)) permThriceCard

/-- THE TIED CARD OF 'plaitlaw08.PermTurned'. -/
def permTurnedCard : Claim7 := { stood := { row := permTurnedRow, standIns := [], harness := (true, "79ef7a8f454b2f45882c25f07e13e1407b565f63afa9b64d4a53df446a8ae040"), looks := true }, kinds := [], alts := [], laidByText := true, laidKinds := [.handle], laidTests := true, laidLooks := .later }
def PermTurnedCardSaid : Prop := Claim7.holds Tryd.pinned (.plain (OpenSpec.ofChange permTurnedSpec)) permTurnedCard

/-- THE TIED CARD OF 'plaitlaw08.PermOrders'. -/
def permOrdersCard : Claim7 := { stood := { row := permOrdersRow, standIns := [], harness := (true, "79ef7a8f454b2f45882c25f07e13e1407b565f63afa9b64d4a53df446a8ae040"), looks := true }, kinds := [], alts := [], laidByText := true, laidKinds := [.handle], laidTests := true, laidLooks := .later }
def PermOrdersCardSaid : Prop := Claim7.holds Tryd.pinned (.plain (OpenSpec.ofChange permOrdersSpec)) permOrdersCard

/-- THE TIED CARD OF 'plaitlaw08.PermOf'. -/
def permOfCard : Claim7 := { stood := { row := permOfRow, standIns := [], harness := (true, "79ef7a8f454b2f45882c25f07e13e1407b565f63afa9b64d4a53df446a8ae040"), looks := true }, kinds := [], alts := [], laidByText := true, laidKinds := [.handle], laidTests := true, laidLooks := .later }
def PermOfCardSaid : Prop := Claim7.holds Tryd.pinned (.plain (OpenSpec.ofChange permOfSpec)) permOfCard

/-- THE TIED CARD OF 'plaitlaw08.PermBack'. -/
def permBackCard : Claim7 := { stood := { row := permBackRow, standIns := [], harness := (true, "79ef7a8f454b2f45882c25f07e13e1407b565f63afa9b64d4a53df446a8ae040"), looks := true }, kinds := [], alts := [], laidByText := true, laidKinds := [.handle], laidTests := true, laidLooks := .later }
def PermBackCardSaid : Prop := Claim7.holds Tryd.pinned (.plain (OpenSpec.ofChange permBackSpec)) permBackCard

/-- THE SECOND FORM's CARD OF 'plaitlaw08.PermCycles'. -/
def permCyclesUptoCard : Claim7 := { stood := { row := permCyclesUptoRow, standIns := [], harness := (true, "79ef7a8f454b2f45882c25f07e13e1407b565f63afa9b64d4a53df446a8ae040"), looks := true }, kinds := [], alts := [], laidByText := true, laidKinds := [.handle], laidTests := true, laidLooks := .later }
def PermCyclesUptoCardSaid : Prop := Claim7.holds Tryd.pinned (.plain (OpenSpec.upto permCyclesSpec)) permCyclesUptoCard

/-- THE SECOND FORM's CARD OF 'plaitlaw08.PermThrice'. -/
def permThriceUptoCard : Claim7 := { stood := { row := permThriceUptoRow, standIns := [], harness := (true, "79ef7a8f454b2f45882c25f07e13e1407b565f63afa9b64d4a53df446a8ae040"), looks := true }, kinds := [], alts := [], laidByText := true, laidKinds := [.handle], laidTests := true, laidLooks := .later }
def PermThriceUptoCardSaid : Prop := Claim7.holds Tryd.pinned (.plain (OpenSpec.upto permThriceSpec)) permThriceUptoCard

/-- THE SECOND FORM's CARD OF 'plaitlaw08.PermTurned'. -/
def permTurnedUptoCard : Claim7 := { stood := { row := permTurnedUptoRow, standIns := [], harness := (true, "79ef7a8f454b2f45882c25f07e13e1407b565f63afa9b64d4a53df446a8ae040"), looks := true }, kinds := [], alts := [], laidByText := true, laidKinds := [.handle], laidTests := true, laidLooks := .later }
def PermTurnedUptoCardSaid : Prop := Claim7.holds Tryd.pinned (.plain (OpenSpec.upto permTurnedSpec)) permTurnedUptoCard

/-- THE SECOND FORM's CARD OF 'plaitlaw08.PermOrders'. -/
def permOrdersUptoCard : Claim7 := { stood := { row := permOrdersUptoRow, standIns := [], harness := (true, "79ef7a8f454b2f45882c25f07e13e1407b565f63afa9b64d4a53df446a8ae040"), looks := true }, kinds := [], alts := [], laidByText := true, laidKinds := [.handle], laidTests := true, laidLooks := .later }
def PermOrdersUptoCardSaid : Prop := Claim7.holds Tryd.pinned (.plain (OpenSpec.upto permOrdersSpec)) permOrdersUptoCard

/-- THE SECOND FORM's CARD OF 'plaitlaw08.PermOf'. -/
def permOfUptoCard : Claim7 := { stood := { row := permOfUptoRow, standIns := [], harness := (true, "79ef7a8f454b2f45882c25f07e13e1407b565f63afa9b64d4a53df446a8ae040"), looks := true }, kinds := [], alts := [], laidByText := true, laidKinds := [.handle], laidTests := true, laidLooks := .later }
def PermOfUptoCardSaid : Prop := Claim7.holds Tryd.pinned (.plain (OpenSpec.upto permOfSpec)) permOfUptoCard

/-- THE SECOND FORM's CARD OF 'plaitlaw08.PermBack'. -/
def permBackUptoCard : Claim7 := { stood := { row := permBackUptoRow, standIns := [], harness := (true, "79ef7a8f454b2f45882c25f07e13e1407b565f63afa9b64d4a53df446a8ae040"), looks := true }, kinds := [], alts := [], laidByText := true, laidKinds := [.handle], laidTests := true, laidLooks := .later }
def PermBackUptoCardSaid : Prop := Claim7.holds Tryd.pinned (.plain (OpenSpec.upto permBackSpec)) permBackUptoCard
end Rows
end Go.Proofs.YtfcnodamjnmleaaDoor
