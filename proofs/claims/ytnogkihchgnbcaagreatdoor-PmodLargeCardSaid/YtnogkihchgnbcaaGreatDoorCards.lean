/-
  DERIVED. GIVEN WITH THE SEED: THE CARDS: each row of YtnogkihchgnbcaaGreatDoorRows.lean that lists a variable, with what it lists TIED to the program's text (the seventh form; the later family's looks); each row that meets fmt, with fmt's text TOLD by the authors' own Lean function (tested against real Go, not proved from fmt's source: count such statements apart). THE CARD IS WHAT COUNTS. Prove the row's statement (the work); the ties are given (YtnogkihchgnbcaaGreatDoorTie.lean); close each card by the builder's one call (the guide's Derived/Test/ToyasCard.lean, 'card_holds'). Laid BY PROGRAM, IN A SANDBOX (cutbox-door.mjs). By AI agents, Wed Nov 11 2026. No macro, syntax, notation, axiom, sorry.
-/
import Derived.Test.YtnogkihchgnbcaaGreatDoorRows
import GoSem.ClaimSeven
namespace Go.Proofs.YtnogkihchgnbcaaGreatDoor
namespace Rows

/-- THE TIED CARD OF 'marquetrylaw08.PmodDecls'. -/
def pmodDeclsCard : Claim7 := { stood := { row := pmodDeclsRow, standIns := [], harness := (true, "bae7adbc7567faeaf4c20499eab0a72b6b12a8df891bfabfa6e3aba070049f7a"), looks := false }, kinds := [], alts := [], laidByText := true, laidKinds := [.data, .pinned], laidTests := true, laidLooks := .later }
def PmodDeclsCardSaid : Prop := Claim7.holds Tryz.pinned (.plain (OpenSpec.ofChange pmodDeclsSpec)) pmodDeclsCard

/-- THE TIED CARD OF 'marquetrylaw08.PmodJoins'. -/
def pmodJoinsCard : Claim7 := { stood := { row := pmodJoinsRow, standIns := [], harness := (true, "bae7adbc7567faeaf4c20499eab0a72b6b12a8df891bfabfa6e3aba070049f7a"), looks := false }, kinds := [], alts := [], laidByText := true, laidKinds := [.data, .pinned], laidTests := true, laidLooks := .later }
def PmodJoinsCardSaid : Prop := Claim7.holds Tryz.pinned (.plain (OpenSpec.ofChange pmodJoinsSpec)) pmodJoinsCard

/-- THE TIED CARD OF 'marquetrylaw08.PmodParses'. -/
def pmodParsesCard : Claim7 := { stood := { row := pmodParsesRow, standIns := [], harness := (true, "bae7adbc7567faeaf4c20499eab0a72b6b12a8df891bfabfa6e3aba070049f7a"), looks := false }, kinds := [], alts := [], laidByText := true, laidKinds := [.data, .pinned], laidTests := true, laidLooks := .later }
def PmodParsesCardSaid : Prop := Claim7.holds Tryz.pinned (.plain (OpenSpec.ofChange pmodParsesSpec)) pmodParsesCard

/-- THE TIED CARD OF 'marquetrylaw08.PmodBlanks'. -/
def pmodBlanksCard : Claim7 := { stood := { row := pmodBlanksRow, standIns := [], harness := (true, "bae7adbc7567faeaf4c20499eab0a72b6b12a8df891bfabfa6e3aba070049f7a"), looks := false }, kinds := [], alts := [], laidByText := true, laidKinds := [.data, .pinned], laidTests := true, laidLooks := .later }
def PmodBlanksCardSaid : Prop := Claim7.holds Tryz.pinned (.plain (OpenSpec.ofChange pmodBlanksSpec)) pmodBlanksCard

/-- THE TIED CARD OF 'marquetrylaw08.PmodLarge'. -/
def pmodLargeCard : Claim7 := { stood := { row := pmodLargeRow, standIns := [], harness := (true, "bae7adbc7567faeaf4c20499eab0a72b6b12a8df891bfabfa6e3aba070049f7a"), looks := false }, kinds := [], alts := [], laidByText := true, laidKinds := [.data, .pinned], laidTests := true, laidLooks := .later }
def PmodLargeCardSaid : Prop := Claim7.holds Tryz.pinned (.plain (OpenSpec.ofChange pmodLargeSpec)) pmodLargeCard

/-- THE TIED CARD OF 'marquetrylaw08.PmodForms'. -/
def pmodFormsCard : Claim7 := { stood := { row := pmodFormsRow, standIns := [], harness := (true, "bae7adbc7567faeaf4c20499eab0a72b6b12a8df891bfabfa6e3aba070049f7a"), looks := false }, kinds := [], alts := [], laidByText := true, laidKinds := [.data, .pinned], laidTests := true, laidLooks := .later }
def PmodFormsCardSaid : Prop := Claim7.holds Tryz.pinned (.plain (OpenSpec.ofChange pmodFormsSpec)) pmodFormsCard

/-- THE SECOND FORM's CARD OF 'marquetrylaw08.PmodDecls'. -/
def pmodDeclsUptoCard : Claim7 := { stood := { row := pmodDeclsUptoRow, standIns := [], harness := (true, "bae7adbc7567faeaf4c20499eab0a72b6b12a8df891bfabfa6e3aba070049f7a"), looks := false }, kinds := [], alts := [], laidByText := true, laidKinds := [.data, .pinned], laidTests := true, laidLooks := .later }
def PmodDeclsUptoCardSaid : Prop := Claim7.holds Tryz.pinned (.plain (OpenSpec.upto pmodDeclsSpec)) pmodDeclsUptoCard

/-- THE SECOND FORM's CARD OF 'marquetrylaw08.PmodJoins'. -/
def pmodJoinsUptoCard : Claim7 := { stood := { row := pmodJoinsUptoRow, standIns := [], harness := (true, "bae7adbc7567faeaf4c20499eab0a72b6b12a8df891bfabfa6e3aba070049f7a"), looks := false }, kinds := [], alts := [], laidByText := true, laidKinds := [.data, .pinned], laidTests := true, laidLooks := .later }
def PmodJoinsUptoCardSaid : Prop := Claim7.holds Tryz.pinned (.plain (OpenSpec.upto pmodJoinsSpec)) pmodJoinsUptoCard

/-- THE SECOND FORM's CARD OF 'marquetrylaw08.PmodParses'. -/
def pmodParsesUptoCard : Claim7 := { stood := { row := pmodParsesUptoRow, standIns := [], harness := (true, "bae7adbc7567faeaf4c20499eab0a72b6b12a8df891bfabfa6e3aba070049f7a"), looks := false }, kinds := [], alts := [], laidByText := true, laidKinds := [.data, .pinned], laidTests := true, laidLooks := .later }
def PmodParsesUptoCardSaid : Prop := Claim7.holds Tryz.pinned (.plain (OpenSpec.upto pmodParsesSpec)) pmodParsesUptoCard

/-- THE SECOND FORM's CARD OF 'marquetrylaw08.PmodBlanks'. -/
def pmodBlanksUptoCard : Claim7 := { stood := { row := pmodBlanksUptoRow, standIns := [], harness := (true, "bae7adbc7567faeaf4c20499eab0a72b6b12a8df891bfabfa6e3aba070049f7a"), looks := false }, kinds := [], alts := [], laidByText := true, laidKinds := [.data, .pinned], laidTests := true, laidLooks := .later }
def PmodBlanksUptoCardSaid : Prop := Claim7.holds Tryz.pinned (.plain (OpenSpec.upto pmodBlanksSpec)) pmodBlanksUptoCard

/-- THE SECOND FORM's CARD OF 'marquetrylaw08.PmodLarge'. -/
def pmodLargeUptoCard : Claim7 := { stood := { row := pmodLargeUptoRow, standIns := [], harness := (true, "bae7adbc7567faeaf4c20499eab0a72b6b12a8df891bfabfa6e3aba070049f7a"), looks := false }, kinds := [], alts := [], laidByText := true, laidKinds := [.data, .pinned], laidTests := true, laidLooks := .later }
def PmodLargeUptoCardSaid : Prop := Claim7.holds Tryz.pinned (.plain (OpenSpec.upto pmodLargeSpec)) pmodLargeUptoCard

/-- THE SECOND FORM's CARD OF 'marquetrylaw08.PmodForms'. -/
def pmodFormsUptoCard : Claim7 := { stood := { row := pmodFormsUptoRow, standIns := [], harness := (true, "bae7adbc7567faeaf4c20499eab0a72b6b12a8df891bfabfa6e3aba070049f7a"), looks := false }, kinds := [], alts := [], laidByText := true, laidKinds := [.data, .pinned], laidTests := true, laidLooks := .later }
def PmodFormsUptoCardSaid : Prop := Claim7.holds Tryz.pinned (.plain (OpenSpec.upto pmodFormsSpec)) pmodFormsUptoCard
end Rows
end Go.Proofs.YtnogkihchgnbcaaGreatDoor
