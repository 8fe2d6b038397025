/-
  DERIVED. GIVEN WITH THE SEED: THE CARDS: each row of YtahinicpceokcaaGreatDoorRows.lean that lists a variable, with what it lists TIED to the program's text (the seventh form; the later family's looks); each row that meets fmt, with fmt's text TOLD by the authors' own Lean function (tested against real Go, not proved from fmt's source: count such statements apart). THE CARD IS WHAT COUNTS. Prove the row's statement (the work); the ties are given (YtahinicpceokcaaGreatDoorTie.lean); close each card by the builder's one call (the guide's Derived/Test/ToyasCard.lean, 'card_holds'). Laid BY PROGRAM, IN A SANDBOX (cutbox-door.mjs). By AI agents, Wed Nov 11 2026. No macro, syntax, notation, axiom, sorry.
-/
import Derived.Test.YtahinicpceokcaaGreatDoorRows
import GoSem.ClaimSeven
namespace Go.Proofs.YtahinicpceokcaaGreatDoor
namespace Rows

/-- THE TIED CARD OF 'seneschallaw.JsonCanons'. -/
def jsonCanonsCard : Claim7 := { stood := { row := jsonCanonsRow, standIns := [], harness := (true, "8c01f1f93a1029f3f4df797eb852be68d008823493ad604cf71bcc72c29d2cc8"), looks := true }, kinds := [], alts := [], laidByText := true, laidKinds := [.data, .data, .data, .data, .sentinel, .sentinel, .pinned], laidTests := true, laidLooks := .later }
def JsonCanonsCardSaid : Prop := Claim7.holds Tryz.pinned (.plain (OpenSpec.ofChange jsonCanonsSpec)) jsonCanonsCard

/-- THE TIED CARD OF 'seneschallaw.JsonSays'. -/
def jsonSaysCard : Claim7 := { stood := { row := jsonSaysRow, standIns := [], harness := (true, "8c01f1f93a1029f3f4df797eb852be68d008823493ad604cf71bcc72c29d2cc8"), looks := true }, kinds := [], alts := [], laidByText := true, laidKinds := [.data, .data, .data, .data, .sentinel, .sentinel, .pinned], laidTests := true, laidLooks := .later }
def JsonSaysCardSaid : Prop := Claim7.holds Tryz.pinned (.plain (OpenSpec.ofChange jsonSaysSpec)) jsonSaysCard

/-- THE TIED CARD OF 'seneschallaw.MergeSays'. -/
def mergeSaysCard : Claim7 := { stood := { row := mergeSaysRow, standIns := [], harness := (true, "8c01f1f93a1029f3f4df797eb852be68d008823493ad604cf71bcc72c29d2cc8"), looks := true }, kinds := [], alts := [], laidByText := true, laidKinds := [.data, .data, .data, .data, .sentinel, .sentinel, .pinned], laidTests := true, laidLooks := .later }
def MergeSaysCardSaid : Prop := Claim7.holds Tryz.pinned (.plain (OpenSpec.ofChange mergeSaysSpec)) mergeSaysCard

/-- THE TIED CARD OF 'seneschallaw.PtrGoes'. -/
def ptrGoesCard : Claim7 := { stood := { row := ptrGoesRow, standIns := [], harness := (true, "8c01f1f93a1029f3f4df797eb852be68d008823493ad604cf71bcc72c29d2cc8"), looks := true }, kinds := [], alts := [], laidByText := true, laidKinds := [.data, .data, .data, .data, .sentinel, .sentinel, .pinned], laidTests := true, laidLooks := .later }
def PtrGoesCardSaid : Prop := Claim7.holds Tryz.pinned (.plain (OpenSpec.ofChange ptrGoesSpec)) ptrGoesCard

/-- THE SECOND FORM's CARD OF 'seneschallaw.JsonCanons'. -/
def jsonCanonsUptoCard : Claim7 := { stood := { row := jsonCanonsUptoRow, standIns := [], harness := (true, "8c01f1f93a1029f3f4df797eb852be68d008823493ad604cf71bcc72c29d2cc8"), looks := true }, kinds := [], alts := [], laidByText := true, laidKinds := [.data, .data, .data, .data, .sentinel, .sentinel, .pinned], laidTests := true, laidLooks := .later }
def JsonCanonsUptoCardSaid : Prop := Claim7.holds Tryz.pinned (.plain (OpenSpec.upto jsonCanonsSpec)) jsonCanonsUptoCard

/-- THE SECOND FORM's CARD OF 'seneschallaw.JsonSays'. -/
def jsonSaysUptoCard : Claim7 := { stood := { row := jsonSaysUptoRow, standIns := [], harness := (true, "8c01f1f93a1029f3f4df797eb852be68d008823493ad604cf71bcc72c29d2cc8"), looks := true }, kinds := [], alts := [], laidByText := true, laidKinds := [.data, .data, .data, .data, .sentinel, .sentinel, .pinned], laidTests := true, laidLooks := .later }
def JsonSaysUptoCardSaid : Prop := Claim7.holds Tryz.pinned (.plain (OpenSpec.upto jsonSaysSpec)) jsonSaysUptoCard

/-- THE SECOND FORM's CARD OF 'seneschallaw.MergeSays'. -/
def mergeSaysUptoCard : Claim7 := { stood := { row := mergeSaysUptoRow, standIns := [], harness := (true, "8c01f1f93a1029f3f4df797eb852be68d008823493ad604cf71bcc72c29d2cc8"), looks := true }, kinds := [], alts := [], laidByText := true, laidKinds := [.data, .data, .data, .data, .sentinel, .sentinel, .pinned], laidTests := true, laidLooks := .later }
def MergeSaysUptoCardSaid : Prop := Claim7.holds Tryz.pinned (.plain (OpenSpec.upto mergeSaysSpec)) mergeSaysUptoCard

/-- THE SECOND FORM's CARD OF 'seneschallaw.PtrGoes'. -/
def ptrGoesUptoCard : Claim7 := { stood := { row := ptrGoesUptoRow, standIns := [], harness := (true, "8c01f1f93a1029f3f4df797eb852be68d008823493ad604cf71bcc72c29d2cc8"), looks := true }, kinds := [], alts := [], laidByText := true, laidKinds := [.data, .data, .data, .data, .sentinel, .sentinel, .pinned], laidTests := true, laidLooks := .later }
def PtrGoesUptoCardSaid : Prop := Claim7.holds Tryz.pinned (.plain (OpenSpec.upto ptrGoesSpec)) ptrGoesUptoCard
end Rows
end Go.Proofs.YtahinicpceokcaaGreatDoor
