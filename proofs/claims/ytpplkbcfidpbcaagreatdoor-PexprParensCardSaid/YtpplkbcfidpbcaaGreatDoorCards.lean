/-
  DERIVED. GIVEN WITH THE SEED: THE CARDS: each row of YtpplkbcfidpbcaaGreatDoorRows.lean that lists a variable, with what it lists TIED to the program's text (the seventh form; the later family's looks); each row that meets fmt, with fmt's text TOLD by the authors' own Lean function (tested against real Go, not proved from fmt's source: count such statements apart). THE CARD IS WHAT COUNTS. Prove the row's statement (the work); the ties are given (YtpplkbcfidpbcaaGreatDoorTie.lean); close each card by the builder's one call (the guide's Derived/Test/ToyasCard.lean, 'card_holds'). Laid BY PROGRAM, IN A SANDBOX (cutbox-door.mjs). By AI agents, Wed Nov 11 2026. No macro, syntax, notation, axiom, sorry.
-/
import Derived.Test.YtpplkbcfidpbcaaGreatDoorRows
import GoSem.ClaimSeven
namespace Go.Proofs.YtpplkbcfidpbcaaGreatDoor
namespace Rows

/-- THE TIED CARD OF 'marquetrylaw07.PexprParses'. -/
def pexprParsesCard : Claim7 := { stood := { row := pexprParsesRow, standIns := [], harness := (true, "d47af64306bcf759ccef2cfa7a68b153b8d91a3f5bc4f2bd26d112b9dcd76e6f"), looks := false }, kinds := [], alts := [], laidByText := true, laidKinds := [.data, .pinned], laidTests := true, laidLooks := .later }
def PexprParsesCardSaid : Prop := Claim7.holds Tryz.pinned (.plain (OpenSpec.ofChange pexprParsesSpec)) pexprParsesCard

/-- THE TIED CARD OF 'marquetrylaw07.PexprReads'. -/
def pexprReadsCard : Claim7 := { stood := { row := pexprReadsRow, standIns := [], harness := (true, "d47af64306bcf759ccef2cfa7a68b153b8d91a3f5bc4f2bd26d112b9dcd76e6f"), looks := false }, kinds := [], alts := [], laidByText := true, laidKinds := [.data, .pinned], laidTests := true, laidLooks := .later }
def PexprReadsCardSaid : Prop := Claim7.holds Tryz.pinned (.plain (OpenSpec.ofChange pexprReadsSpec)) pexprReadsCard

/-- THE TIED CARD OF 'marquetrylaw07.PexprWrites'. -/
def pexprWritesCard : Claim7 := { stood := { row := pexprWritesRow, standIns := [], harness := (true, "d47af64306bcf759ccef2cfa7a68b153b8d91a3f5bc4f2bd26d112b9dcd76e6f"), looks := false }, kinds := [], alts := [], laidByText := true, laidKinds := [.data, .pinned], laidTests := true, laidLooks := .later }
def PexprWritesCardSaid : Prop := Claim7.holds Tryz.pinned (.plain (OpenSpec.ofChange pexprWritesSpec)) pexprWritesCard

/-- THE TIED CARD OF 'marquetrylaw07.PexprForms'. -/
def pexprFormsCard : Claim7 := { stood := { row := pexprFormsRow, standIns := [], harness := (true, "d47af64306bcf759ccef2cfa7a68b153b8d91a3f5bc4f2bd26d112b9dcd76e6f"), looks := false }, kinds := [], alts := [], laidByText := true, laidKinds := [.data, .pinned], laidTests := true, laidLooks := .later }
def PexprFormsCardSaid : Prop := Claim7.holds Tryz.pinned (.plain (OpenSpec.ofChange pexprFormsSpec)) pexprFormsCard

/-- THE TIED CARD OF 'marquetrylaw07.PexprParens'. -/
def pexprParensCard : Claim7 := { stood := { row := pexprParensRow, standIns := [], harness := (true, "d47af64306bcf759ccef2cfa7a68b153b8d91a3f5bc4f2bd26d112b9dcd76e6f"), looks := false }, kinds := [], alts := [], laidByText := true, laidKinds := [.data, .pinned], laidTests := true, laidLooks := .later }
def PexprParensCardSaid : Prop := Claim7.holds Tryz.pinned (.plain (OpenSpec.ofChange pexprParensSpec)) pexprParensCard

/-- THE TIED CARD OF 'marquetrylaw07.PexprBack'. -/
def pexprBackCard : Claim7 := { stood := { row := pexprBackRow, standIns := [], harness := (true, "d47af64306bcf759ccef2cfa7a68b153b8d91a3f5bc4f2bd26d112b9dcd76e6f"), looks := false }, kinds := [], alts := [], laidByText := true, laidKinds := [.data, .pinned], laidTests := true, laidLooks := .later }
def PexprBackCardSaid : Prop := Claim7.holds Tryz.pinned (.plain (OpenSpec.ofChange pexprBackSpec)) pexprBackCard

/-- THE SECOND FORM's CARD OF 'marquetrylaw07.PexprParses'. -/
def pexprParsesUptoCard : Claim7 := { stood := { row := pexprParsesUptoRow, standIns := [], harness := (true, "d47af64306bcf759ccef2cfa7a68b153b8d91a3f5bc4f2bd26d112b9dcd76e6f"), looks := false }, kinds := [], alts := [], laidByText := true, laidKinds := [.data, .pinned], laidTests := true, laidLooks := .later }
def PexprParsesUptoCardSaid : Prop := Claim7.holds Tryz.pinned (.plain (OpenSpec.upto pexprParsesSpec)) pexprParsesUptoCard

/-- THE SECOND FORM's CARD OF 'marquetrylaw07.PexprReads'. -/
def pexprReadsUptoCard : Claim7 := { stood := { row := pexprReadsUptoRow, standIns := [], harness := (true, "d47af64306bcf759ccef2cfa7a68b153b8d91a3f5bc4f2bd26d112b9dcd76e6f"), looks := false }, kinds := [], alts := [], laidByText := true, laidKinds := [.data, .pinned], laidTests := true, laidLooks := .later }
def PexprReadsUptoCardSaid : Prop := Claim7.holds Tryz.pinned (.plain (OpenSpec.upto pexprReadsSpec)) pexprReadsUptoCard

/-- THE SECOND FORM's CARD OF 'marquetrylaw07.PexprWrites'. -/
def pexprWritesUptoCard : Claim7 := { stood := { row := pexprWritesUptoRow, standIns := [], harness := (true, "d47af64306bcf759ccef2cfa7a68b153b8d91a3f5bc4f2bd26d112b9dcd76e6f"), looks := false }, kinds := [], alts := [], laidByText := true, laidKinds := [.data, .pinned], laidTests := true, laidLooks := .later }
def PexprWritesUptoCardSaid : Prop := Claim7.holds Tryz.pinned (.plain (OpenSpec.upto pexprWritesSpec)) pexprWritesUptoCard

/-- THE SECOND FORM's CARD OF 'marquetrylaw07.PexprForms'. -/
def pexprFormsUptoCard : Claim7 := { stood := { row := pexprFormsUptoRow, standIns := [], harness := (true, "d47af64306bcf759ccef2cfa7a68b153b8d91a3f5bc4f2bd26d112b9dcd76e6f"), looks := false }, kinds := [], alts := [], laidByText := true, laidKinds := [.data, .pinned], laidTests := true, laidLooks := .later }
def PexprFormsUptoCardSaid : Prop := Claim7.holds Tryz.pinned (.plain (OpenSpec.upto pexprFormsSpec)) pexprFormsUptoCard

/-- THE SECOND FORM's CARD OF 'marquetrylaw07.PexprParens'. -/
def pexprParensUptoCard : Claim7 := { stood := { row := pexprParensUptoRow, standIns := [], harness := (true, "d47af64306bcf759ccef2cfa7a68b153b8d91a3f5bc4f2bd26d112b9dcd76e6f"), looks := false }, kinds := [], alts := [], laidByText := true, laidKinds := [.data, .pinned], laidTests := true, laidLooks := .later }
def PexprParensUptoCardSaid : Prop := Claim7.holds Tryz.pinned (.plain (OpenSpec.upto pexprParensSpec)) pexprParensUptoCard

/-- THE SECOND FORM's CARD OF 'marquetrylaw07.PexprBack'. -/
def pexprBackUptoCard : Claim7 := { stood := { row := pexprBackUptoRow, standIns := [], harness := (true, "d47af64306bcf759ccef2cfa7a68b153b8d91a3f5bc4f2bd26d112b9dcd76e6f"), looks := false }, kinds := [], alts := [], laidByText := true, laidKinds := [.data, .pinned], laidTests := true, laidLooks := .later }
def PexprBackUptoCardSaid : Prop := Claim7.holds Tryz.pinned (.plain (OpenSpec.upto pexprBackSpec)) pexprBackUptoCard
end Rows
end Go.Proofs.YtpplkbcfidpbcaaGreatDoor
