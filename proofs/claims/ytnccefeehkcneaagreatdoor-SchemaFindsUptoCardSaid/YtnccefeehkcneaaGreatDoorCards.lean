/-
  DERIVED. GIVEN WITH THE SEED: THE CARDS: each row of YtnccefeehkcneaaGreatDoorRows.lean that lists a variable, with what it lists TIED to the program's text (the seventh form; the later family's looks); each row that meets fmt, with fmt's text TOLD by the authors' own Lean function (tested against real Go, not proved from fmt's source: count such statements apart). THE CARD IS WHAT COUNTS. Prove the row's statement (the work); the ties are given (YtnccefeehkcneaaGreatDoorTie.lean); close each card by the builder's one call (the guide's Derived/Test/ToyasCard.lean, 'card_holds'). Laid BY PROGRAM, IN A SANDBOX (cutbox-door.mjs). By AI agents, Wed Nov 11 2026. No macro, syntax, notation, axiom, sorry.
-/
import Derived.Test.YtnccefeehkcneaaGreatDoorRows
import GoSem.ClaimSeven
namespace Go.Proofs.YtnccefeehkcneaaGreatDoor
namespace Rows

/-- THE TIED CARD OF 'seneschallaw.SchemaChecks'. -/
def schemaChecksCard : Claim7 := { stood := { row := schemaChecksRow, standIns := [], harness := (true, "c758994a1a95b38bae242c327b8ca9cdea1b9b3cfd17a5e416755a799c32380f"), looks := true }, kinds := [], alts := [], laidByText := true, laidKinds := [.data, .data, .data, .data, .sentinel, .sentinel, .pinned], laidTests := true, laidLooks := .later }
def SchemaChecksCardSaid : Prop := Claim7.holds Tryz.pinned (.plain (OpenSpec.ofChange schemaChecksSpec)) schemaChecksCard

/-- THE TIED CARD OF 'seneschallaw.SchemaFinds'. -/
def schemaFindsCard : Claim7 := { stood := { row := schemaFindsRow, standIns := [], harness := (true, "c758994a1a95b38bae242c327b8ca9cdea1b9b3cfd17a5e416755a799c32380f"), looks := true }, kinds := [], alts := [], laidByText := true, laidKinds := [.data, .data, .data, .data, .sentinel, .sentinel, .pinned], laidTests := true, laidLooks := .later }
def SchemaFindsCardSaid : Prop := Claim7.holds Tryz.pinned (.plain (OpenSpec.ofChange schemaFindsSpec)) schemaFindsCard

/-- THE TIED CARD OF 'seneschallaw.SchemaForms'. -/
def schemaFormsCard : Claim7 := { stood := { row := schemaFormsRow, standIns := [], harness := (true, "c758994a1a95b38bae242c327b8ca9cdea1b9b3cfd17a5e416755a799c32380f"), looks := true }, kinds := [], alts := [], laidByText := true, laidKinds := [.data, .data, .data, .data, .sentinel, .sentinel, .pinned], laidTests := true, laidLooks := .later }
def SchemaFormsCardSaid : Prop := Claim7.holds Tryz.pinned (.plain (OpenSpec.ofChange schemaFormsSpec)) schemaFormsCard

/-- THE TIED CARD OF 'seneschallaw.ThreeSays'. -/
def threeSaysCard : Claim7 := { stood := { row := threeSaysRow, standIns := [], harness := (true, "c758994a1a95b38bae242c327b8ca9cdea1b9b3cfd17a5e416755a799c32380f"), looks := true }, kinds := [], alts := [], laidByText := true, laidKinds := [.data, .data, .data, .data, .sentinel, .sentinel, .pinned], laidTests := true, laidLooks := .later }
def ThreeSaysCardSaid : Prop := Claim7.holds Tryz.pinned (.plain (OpenSpec.ofChange threeSaysSpec)) threeSaysCard

/-- THE TIED CARD OF 'seneschallaw.PatchSays'. -/
def patchSaysCard : Claim7 := { stood := { row := patchSaysRow, standIns := [], harness := (true, "c758994a1a95b38bae242c327b8ca9cdea1b9b3cfd17a5e416755a799c32380f"), looks := true }, kinds := [], alts := [], laidByText := true, laidKinds := [.data, .data, .data, .data, .sentinel, .sentinel, .pinned], laidTests := true, laidLooks := .later }
def PatchSaysCardSaid : Prop := Claim7.holds Tryz.pinned (.plain (OpenSpec.ofChange patchSaysSpec)) patchSaysCard

/-- THE SECOND FORM's CARD OF 'seneschallaw.SchemaChecks'. -/
def schemaChecksUptoCard : Claim7 := { stood := { row := schemaChecksUptoRow, standIns := [], harness := (true, "c758994a1a95b38bae242c327b8ca9cdea1b9b3cfd17a5e416755a799c32380f"), looks := true }, kinds := [], alts := [], laidByText := true, laidKinds := [.data, .data, .data, .data, .sentinel, .sentinel, .pinned], laidTests := true, laidLooks := .later }
def SchemaChecksUptoCardSaid : Prop := Claim7.holds Tryz.pinned (.plain (OpenSpec.upto schemaChecksSpec)) schemaChecksUptoCard

/-- THE SECOND FORM's CARD OF 'seneschallaw.SchemaFinds'. -/
def schemaFindsUptoCard : Claim7 := { stood := { row := schemaFindsUptoRow, standIns := [], harness := (true, "c758994a1a95b38bae242c327b8ca9cdea1b9b3cfd17a5e416755a799c32380f"), looks := true }, kinds := [], alts := [], laidByText := true, laidKinds := [.data, .data, .data, .data, .sentinel, .sentinel, .pinned], laidTests := true, laidLooks := .later }
def SchemaFindsUptoCardSaid : Prop := Claim7.holds Tryz.pinned (.plain (OpenSpec.upto schemaFindsSpec)) schemaFindsUptoCard

/-- THE SECOND FORM's CARD OF 'seneschallaw.SchemaForms'. -/
def schemaFormsUptoCard : Claim7 := { stood := { row := schemaFormsUptoRow, standIns := [], harness := (true, "c758994a1a95b38bae242c327b8ca9cdea1b9b3cfd17a5e416755a799c32380f"), looks := true }, kinds := [], alts := [], laidByText := true, laidKinds := [.data, .data, .data, .data, .sentinel, .sentinel, .pinned], laidTests := true, laidLooks := .later }
def SchemaFormsUptoCardSaid : Prop := Claim7.holds Tryz.pinned (.plain (OpenSpec.upto schemaFormsSpec)) schemaFormsUptoCard

/-- THE SECOND FORM's CARD OF 'seneschallaw.ThreeSays'. -/
def threeSaysUptoCard : Claim7 := { stood := { row := threeSaysUptoRow, standIns := [], harness := (true, "c758994a1a95b38bae242c327b8ca9cdea1b9b3cfd17a5e416755a799c32380f"), looks := true }, kinds := [], alts := [], laidByText := true, laidKinds := [.data, .data, .data, .data, .sentinel, .sentinel, .pinned], laidTests := true, laidLooks := .later }
def ThreeSaysUptoCardSaid : Prop := Claim7.holds Tryz.pinned (.plain (OpenSpec.upto threeSaysSpec)) threeSaysUptoCard

/-- THE SECOND FORM's CARD OF 'seneschallaw.PatchSays'. -/
def patchSaysUptoCard : Claim7 := { stood := { row := patchSaysUptoRow, standIns := [], harness := (true, "c758994a1a95b38bae242c327b8ca9cdea1b9b3cfd17a5e416755a799c32380f"), looks := true }, kinds := [], alts := [], laidByText := true, laidKinds := [.data, .data, .data, .data, .sentinel, .sentinel, .pinned], laidTests := true, laidLooks := .later }
def PatchSaysUptoCardSaid : Prop := Claim7.holds Tryz.pinned (.plain (OpenSpec.upto patchSaysSpec)) patchSaysUptoCard
end Rows
end Go.Proofs.YtnccefeehkcneaaGreatDoor
