/-
  DERIVED. GIVEN WITH THE SEED: THE CARDS: each row of YtplfimoeggecjaaDoorRows.lean that lists a variable, with what it lists TIED to the program's text (the seventh form; the later family's looks); each row that meets fmt, with fmt's text TOLD by the authors' own Lean function (tested against real Go, not proved from fmt's source: count such statements apart). THE CARD IS WHAT COUNTS. Prove the row's statement (the work); the ties are given (YtplfimoeggecjaaDoorTie.lean); close each card by the builder's one call (the guide's Derived/Test/ToyasCard.lean, 'card_holds'). Laid BY PROGRAM, IN A SANDBOX (cutbox-door.mjs). By AI agents, Wed Nov 11 2026. No macro, syntax, notation, axiom, sorry.
-/
import Derived.Test.YtplfimoeggecjaaDoorRows
import GoSem.ClaimSeven
namespace Go.Proofs.YtplfimoeggecjaaDoor
namespace Rows

/-- THE TIED CARD OF 'seneschallaw.GrantsGives'. -/
def grantsGivesCard : Claim7 := { stood := { row := grantsGivesRow, standIns := [], harness := (true, "925fe2a901149bc455ca1c53c175c8d775f0b2cecdbbc4d1e6952e1dd52153b2"), looks := false }, kinds := [], alts := [], laidByText := true, laidKinds := [.data, .data, .data], laidTests := true, laidLooks := .later }
def GrantsGivesCardSaid : Prop := Claim7.holds Tryd.pinned (.plain (OpenSpec.ofChange grantsGivesSpec)) grantsGivesCard

/-- THE SECOND FORM's CARD OF 'seneschallaw.GrantsGives'. -/
def grantsGivesUptoCard : Claim7 := { stood := { row := grantsGivesUptoRow, standIns := [], harness := (true, "925fe2a901149bc455ca1c53c175c8d775f0b2cecdbbc4d1e6952e1dd52153b2"), looks := false }, kinds := [], alts := [], laidByText := true, laidKinds := [.data, .data, .data], laidTests := true, laidLooks := .later }
def GrantsGivesUptoCardSaid : Prop := Claim7.holds Tryd.pinned (.plain (OpenSpec.upto grantsGivesSpec)) grantsGivesUptoCard
end Rows
end Go.Proofs.YtplfimoeggecjaaDoor
