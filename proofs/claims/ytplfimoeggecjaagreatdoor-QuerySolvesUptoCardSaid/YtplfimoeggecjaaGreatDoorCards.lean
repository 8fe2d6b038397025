/-
  DERIVED. GIVEN WITH THE SEED: THE CARDS: each row of YtplfimoeggecjaaGreatDoorRows.lean that lists a variable, with what it lists TIED to the program's text (the seventh form; the later family's looks); each row that meets fmt, with fmt's text TOLD by the authors' own Lean function (tested against real Go, not proved from fmt's source: count such statements apart). THE CARD IS WHAT COUNTS. Prove the row's statement (the work); the ties are given (YtplfimoeggecjaaGreatDoorTie.lean); close each card by the builder's one call (the guide's Derived/Test/ToyasCard.lean, 'card_holds'). Laid BY PROGRAM, IN A SANDBOX (cutbox-door.mjs). By AI agents, Wed Nov 11 2026. No macro, syntax, notation, axiom, sorry.
-/
import Derived.Test.YtplfimoeggecjaaGreatDoorRows
import GoSem.ClaimSeven
namespace Go.Proofs.YtplfimoeggecjaaGreatDoor
namespace Rows

/-- THE TIED CARD OF 'seneschallaw.QuerySolves'. -/
def querySolvesCard : Claim7 := { stood := { row := querySolvesRow, standIns := [], harness := (true, "528431fd1daf799389582fb268b5331fb66a85dabd4510e57fad46a187d266ed"), looks := true }, kinds := [], alts := [], laidByText := true, laidKinds := [.data, .data, .data, .data, .pinned], laidTests := true, laidLooks := .later }
def QuerySolvesCardSaid : Prop := Claim7.holds Tryz.pinned (.plain (OpenSpec.ofChange querySolvesSpec)) querySolvesCard

/-- THE TIED CARD OF 'seneschallaw.AuditSays'. -/
def auditSaysCard : Claim7 := { stood := { row := auditSaysRow, standIns := [], harness := (true, "528431fd1daf799389582fb268b5331fb66a85dabd4510e57fad46a187d266ed"), looks := true }, kinds := [], alts := [], laidByText := true, laidKinds := [.data, .data, .data, .data, .sentinel, .sentinel, .pinned], laidTests := true, laidLooks := .later }
def AuditSaysCardSaid : Prop := Claim7.holds Tryz.pinned (.plain (OpenSpec.ofChange auditSaysSpec)) auditSaysCard

/-- THE TIED CARD OF 'seneschallaw.TokenSays'. -/
def tokenSaysCard : Claim7 := { stood := { row := tokenSaysRow, standIns := [], harness := (true, "528431fd1daf799389582fb268b5331fb66a85dabd4510e57fad46a187d266ed"), looks := true }, kinds := [], alts := [], laidByText := true, laidKinds := [.data, .data, .data, .data, .sentinel, .sentinel, .pinned], laidTests := true, laidLooks := .later }
def TokenSaysCardSaid : Prop := Claim7.holds Tryz.pinned (.plain (OpenSpec.ofChange tokenSaysSpec)) tokenSaysCard

/-- THE SECOND FORM's CARD OF 'seneschallaw.QuerySolves'. -/
def querySolvesUptoCard : Claim7 := { stood := { row := querySolvesUptoRow, standIns := [], harness := (true, "528431fd1daf799389582fb268b5331fb66a85dabd4510e57fad46a187d266ed"), looks := true }, kinds := [], alts := [], laidByText := true, laidKinds := [.data, .data, .data, .data, .pinned], laidTests := true, laidLooks := .later }
def QuerySolvesUptoCardSaid : Prop := Claim7.holds Tryz.pinned (.plain (OpenSpec.upto querySolvesSpec)) querySolvesUptoCard

/-- THE SECOND FORM's CARD OF 'seneschallaw.AuditSays'. -/
def auditSaysUptoCard : Claim7 := { stood := { row := auditSaysUptoRow, standIns := [], harness := (true, "528431fd1daf799389582fb268b5331fb66a85dabd4510e57fad46a187d266ed"), looks := true }, kinds := [], alts := [], laidByText := true, laidKinds := [.data, .data, .data, .data, .sentinel, .sentinel, .pinned], laidTests := true, laidLooks := .later }
def AuditSaysUptoCardSaid : Prop := Claim7.holds Tryz.pinned (.plain (OpenSpec.upto auditSaysSpec)) auditSaysUptoCard

/-- THE SECOND FORM's CARD OF 'seneschallaw.TokenSays'. -/
def tokenSaysUptoCard : Claim7 := { stood := { row := tokenSaysUptoRow, standIns := [], harness := (true, "528431fd1daf799389582fb268b5331fb66a85dabd4510e57fad46a187d266ed"), looks := true }, kinds := [], alts := [], laidByText := true, laidKinds := [.data, .data, .data, .data, .sentinel, .sentinel, .pinned], laidTests := true, laidLooks := .later }
def TokenSaysUptoCardSaid : Prop := Claim7.holds Tryz.pinned (.plain (OpenSpec.upto tokenSaysSpec)) tokenSaysUptoCard
end Rows
end Go.Proofs.YtplfimoeggecjaaGreatDoor
