/-
  DERIVED. GIVEN WITH THE SEED: THE CARDS: each row of YtpbbohinhbboaaaDoorRows.lean that lists a variable, with what it lists TIED to the program's text (the seventh form; the later family's looks); each row that meets fmt, with fmt's text TOLD by the authors' own Lean function (tested against real Go, not proved from fmt's source: count such statements apart). THE CARD IS WHAT COUNTS. Prove the row's statement (the work); the ties are given (YtpbbohinhbboaaaDoorTie.lean); close each card by the builder's one call (the guide's Derived/Test/ToyasCard.lean, 'card_holds'). Laid BY PROGRAM, IN A SANDBOX (cutbox-door.mjs). By AI agents, Wed Nov 11 2026. No macro, syntax, notation, axiom, sorry.
-/
import Derived.Test.YtpbbohinhbboaaaDoorRows
import GoSem.ClaimSeven
namespace Go.Proofs.YtpbbohinhbboaaaDoor
namespace Rows

/-- THE TIED CARD OF 'seneschallaw.NameSays'. -/
def nameSaysCard : Claim7 := { stood := { row := nameSaysRow, standIns := [], harness := (true, "f3597f56ebd6e4894a14a8d23fa144c3bd375cb1737eafa13404a367c7624c19"), looks := false }, kinds := [], alts := [], laidByText := true, laidKinds := [.data, .pinned], laidTests := true, laidLooks := .later }
def NameSaysCardSaid : Prop := Claim7.holds Tryd.pinned (.plain (OpenSpec.ofChange nameSaysSpec)) nameSaysCard

/-- THE TIED CARD OF 'seneschallaw.PtrSays'. -/
def ptrSaysCard : Claim7 := { stood := { row := ptrSaysRow, standIns := [], harness := (true, "f3597f56ebd6e4894a14a8d23fa144c3bd375cb1737eafa13404a367c7624c19"), looks := false }, kinds := [], alts := [], laidByText := true, laidKinds := [.data, .pinned], laidTests := true, laidLooks := .later }
def PtrSaysCardSaid : Prop := Claim7.holds Tryd.pinned (.plain (OpenSpec.ofChange ptrSaysSpec)) ptrSaysCard

/-- THE TIED CARD OF 'seneschallaw.QueryReads'. -/
def queryReadsCard : Claim7 := { stood := { row := queryReadsRow, standIns := [], harness := (true, "f3597f56ebd6e4894a14a8d23fa144c3bd375cb1737eafa13404a367c7624c19"), looks := false }, kinds := [], alts := [], laidByText := true, laidKinds := [.data, .pinned], laidTests := true, laidLooks := .later }
def QueryReadsCardSaid : Prop := Claim7.holds Tryd.pinned (.plain (OpenSpec.ofChange queryReadsSpec)) queryReadsCard

/-- THE TIED CARD OF 'seneschallaw.QueryChecks'. -/
def queryChecksCard : Claim7 := { stood := { row := queryChecksRow, standIns := [], harness := (true, "f3597f56ebd6e4894a14a8d23fa144c3bd375cb1737eafa13404a367c7624c19"), looks := false }, kinds := [], alts := [], laidByText := true, laidKinds := [.data, .pinned], laidTests := true, laidLooks := .later }
def QueryChecksCardSaid : Prop := Claim7.holds Tryd.pinned (.plain (OpenSpec.ofChange queryChecksSpec)) queryChecksCard

/-- THE SECOND FORM's CARD OF 'seneschallaw.NameSays'. -/
def nameSaysUptoCard : Claim7 := { stood := { row := nameSaysUptoRow, standIns := [], harness := (true, "f3597f56ebd6e4894a14a8d23fa144c3bd375cb1737eafa13404a367c7624c19"), looks := false }, kinds := [], alts := [], laidByText := true, laidKinds := [.data, .pinned], laidTests := true, laidLooks := .later }
def NameSaysUptoCardSaid : Prop := Claim7.holds Tryd.pinned (.plain (OpenSpec.upto nameSaysSpec)) nameSaysUptoCard

/-- THE SECOND FORM's CARD OF 'seneschallaw.PtrSays'. -/
def ptrSaysUptoCard : Claim7 := { stood := { row := ptrSaysUptoRow, standIns := [], harness := (true, "f3597f56ebd6e4894a14a8d23fa144c3bd375cb1737eafa13404a367c7624c19"), looks := false }, kinds := [], alts := [], laidByText := true, laidKinds := [.data, .pinned], laidTests := true, laidLooks := .later }
def PtrSaysUptoCardSaid : Prop := Claim7.holds Tryd.pinned (.plain (OpenSpec.upto ptrSaysSpec)) ptrSaysUptoCard

/-- THE SECOND FORM's CARD OF 'seneschallaw.QueryReads'. -/
def queryReadsUptoCard : Claim7 := { stood := { row := queryReadsUptoRow, standIns := [], harness := (true, "f3597f56ebd6e4894a14a8d23fa144c3bd375cb1737eafa13404a367c7624c19"), looks := false }, kinds := [], alts := [], laidByText := true, laidKinds := [.data, .pinned], laidTests := true, laidLooks := .later }
def QueryReadsUptoCardSaid : Prop := Claim7.holds Tryd.pinned (.plain (OpenSpec.upto queryReadsSpec)) queryReadsUptoCard

/-- THE SECOND FORM's CARD OF 'seneschallaw.QueryChecks'. -/
def queryChecksUptoCard : Claim7 := { stood := { row := queryChecksUptoRow, standIns := [], harness := (true, "f3597f56ebd6e4894a14a8d23fa144c3bd375cb1737eafa13404a367c7624c19"), looks := false }, kinds := [], alts := [], laidByText := true, laidKinds := [.data, .pinned], laidTests := true, laidLooks := .later }
def QueryChecksUptoCardSaid : Prop := Claim7.holds Tryd.pinned (.plain (OpenSpec.upto queryChecksSpec)) queryChecksUptoCard
end Rows
end Go.Proofs.YtpbbohinhbboaaaDoor
