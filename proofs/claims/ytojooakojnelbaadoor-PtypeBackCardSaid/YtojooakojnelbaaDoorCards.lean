/-
  DERIVED. GIVEN WITH THE SEED: THE CARDS: each row of YtojooakojnelbaaDoorRows.lean that lists a variable, with what it lists TIED to the program's text (the seventh form; the later family's looks); each row that meets fmt, with fmt's text TOLD by the authors' own Lean function (tested against real Go, not proved from fmt's source: count such statements apart). THE CARD IS WHAT COUNTS. Prove the row's statement (the work); the ties are given (YtojooakojnelbaaDoorTie.lean); close each card by the builder's one call (the guide's Derived/Test/ToyasCard.lean, 'card_holds'). Laid BY PROGRAM, IN A SANDBOX (cutbox-door.mjs). By AI agents, Wed Nov 11 2026. No macro, syntax, notation, axiom, sorry.
-/
import Derived.Test.YtojooakojnelbaaDoorRows
import GoSem.ClaimSeven
namespace Go.Proofs.YtojooakojnelbaaDoor
namespace Rows

/-- THE TIED CARD OF 'marquetrylaw05.ShapeTells'. -/
def shapeTellsCard : Claim7 := { stood := { row := shapeTellsRow, standIns := [], harness := (true, "052dddd592b64fe42d9c25e56dc379100a74d7a094aaa0264113faccbe8a04f4"), looks := false }, kinds := [], alts := [], laidByText := true, laidKinds := [.data, .pinned], laidTests := true, laidLooks := .later }
def ShapeTellsCardSaid : Prop := Claim7.holds Tryd.pinned (.plain (OpenSpec.ofChange shapeTellsSpec)) shapeTellsCard

/-- THE TIED CARD OF 'marquetrylaw05.ShapeNil'. -/
def shapeNilCard : Claim7 := { stood := { row := shapeNilRow, standIns := [], harness := (true, "052dddd592b64fe42d9c25e56dc379100a74d7a094aaa0264113faccbe8a04f4"), looks := false }, kinds := [], alts := [], laidByText := true, laidKinds := [.data, .pinned], laidTests := true, laidLooks := .later }
def ShapeNilCardSaid : Prop := Claim7.holds Tryd.pinned (.plain (OpenSpec.ofChange shapeNilSpec)) shapeNilCard

/-- THE TIED CARD OF 'marquetrylaw05.ShapeOne'. -/
def shapeOneCard : Claim7 := { stood := { row := shapeOneRow, standIns := [], harness := (true, "052dddd592b64fe42d9c25e56dc379100a74d7a094aaa0264113faccbe8a04f4"), looks := false }, kinds := [], alts := [], laidByText := true, laidKinds := [.data, .pinned], laidTests := true, laidLooks := .later }
def ShapeOneCardSaid : Prop := Claim7.holds Tryd.pinned (.plain (OpenSpec.ofChange shapeOneSpec)) shapeOneCard

/-- THE TIED CARD OF 'marquetrylaw05.ShapeParts'. -/
def shapePartsCard : Claim7 := { stood := { row := shapePartsRow, standIns := [], harness := (true, "052dddd592b64fe42d9c25e56dc379100a74d7a094aaa0264113faccbe8a04f4"), looks := false }, kinds := [], alts := [], laidByText := true, laidKinds := [.data, .pinned], laidTests := true, laidLooks := .later }
def ShapePartsCardSaid : Prop := Claim7.holds Tryd.pinned (.plain (OpenSpec.ofChange shapePartsSpec)) shapePartsCard

/-- THE TIED CARD OF 'marquetrylaw05.ShapePuts'. -/
def shapePutsCard : Claim7 := { stood := { row := shapePutsRow, standIns := [], harness := (true, "052dddd592b64fe42d9c25e56dc379100a74d7a094aaa0264113faccbe8a04f4"), looks := false }, kinds := [], alts := [], laidByText := true, laidKinds := [.data, .pinned], laidTests := true, laidLooks := .later }
def ShapePutsCardSaid : Prop := Claim7.holds Tryd.pinned (.plain (OpenSpec.ofChange shapePutsSpec)) shapePutsCard

/-- THE TIED CARD OF 'marquetrylaw06.PtypeForms'. -/
def ptypeFormsCard : Claim7 := { stood := { row := ptypeFormsRow, standIns := [], harness := (true, "052dddd592b64fe42d9c25e56dc379100a74d7a094aaa0264113faccbe8a04f4"), looks := false }, kinds := [], alts := [], laidByText := true, laidKinds := [.data, .pinned], laidTests := true, laidLooks := .later }
def PtypeFormsCardSaid : Prop := Claim7.holds Tryd.pinned (.plain (OpenSpec.ofChange ptypeFormsSpec)) ptypeFormsCard

/-- THE TIED CARD OF 'marquetrylaw06.PtypeStops'. -/
def ptypeStopsCard : Claim7 := { stood := { row := ptypeStopsRow, standIns := [], harness := (true, "052dddd592b64fe42d9c25e56dc379100a74d7a094aaa0264113faccbe8a04f4"), looks := false }, kinds := [], alts := [], laidByText := true, laidKinds := [.data, .pinned], laidTests := true, laidLooks := .later }
def PtypeStopsCardSaid : Prop := Claim7.holds Tryd.pinned (.plain (OpenSpec.ofChange ptypeStopsSpec)) ptypeStopsCard

/-- THE TIED CARD OF 'marquetrylaw06.PtypeBack'. -/
def ptypeBackCard : Claim7 := { stood := { row := ptypeBackRow, standIns := [], harness := (true, "052dddd592b64fe42d9c25e56dc379100a74d7a094aaa0264113faccbe8a04f4"), looks := false }, kinds := [], alts := [], laidByText := true, laidKinds := [.data, .pinned], laidTests := true, laidLooks := .later }
def PtypeBackCardSaid : Prop := Claim7.holds Tryd.pinned (.plain (OpenSpec.ofChange ptypeBackSpec)) ptypeBackCard

/-- THE SECOND FORM's CARD OF 'marquetrylaw05.ShapeTells'. -/
def shapeTellsUptoCard : Claim7 := { stood := { row := shapeTellsUptoRow, standIns := [], harness := (true, "052dddd592b64fe42d9c25e56dc379100a74d7a094aaa0264113faccbe8a04f4"), looks := false }, kinds := [], alts := [], laidByText := true, laidKinds := [.data, .pinned], laidTests := true, laidLooks := .later }
def ShapeTellsUptoCardSaid : Prop := Claim7.holds Tryd.pinned (.plain (OpenSpec.upto shapeTellsSpec)) shapeTellsUptoCard

/-- THE SECOND FORM's CARD OF 'marquetrylaw05.ShapeNil'. -/
def shapeNilUptoCard : Claim7 := { stood := { row := shapeNilUptoRow, standIns := [], harness := (true, "052dddd592b64fe42d9c25e56dc379100a74d7a094aaa0264113faccbe8a04f4"), looks := false }, kinds := [], alts := [], laidByText := true, laidKinds := [.data, .pinned], laidTests := true, laidLooks := .later }
def ShapeNilUptoCardSaid : Prop := Claim7.holds Tryd.pinned (.plain (OpenSpec.upto shapeNilSpec)) shapeNilUptoCard

/-- THE SECOND FORM's CARD OF 'marquetrylaw05.ShapeOne'. -/
def shapeOneUptoCard : Claim7 := { stood := { row := shapeOneUptoRow, standIns := [], harness := (true, "052dddd592b64fe42d9c25e56dc379100a74d7a094aaa0264113faccbe8a04f4"), looks := false }, kinds := [], alts := [], laidByText := true, laidKinds := [.data, .pinned], laidTests := true, laidLooks := .later }
def ShapeOneUptoCardSaid : Prop := Claim7.holds Tryd.pinned (.plain (OpenSpec.upto shapeOneSpec)) shapeOneUptoCard

/-- THE SECOND FORM's CARD OF 'marquetrylaw05.ShapeParts'. -/
def shapePartsUptoCard : Claim7 := { stood := { row := shapePartsUptoRow, standIns := [], harness := (true, "052dddd592b64fe42d9c25e56dc379100a74d7a094aaa0264113faccbe8a04f4"), looks := false }, kinds := [], alts := [], laidByText := true, laidKinds := [.data, .pinned], laidTests := true, laidLooks := .later }
def ShapePartsUptoCardSaid : Prop := Claim7.holds Tryd.pinned (.plain (OpenSpec.upto shapePartsSpec)) shapePartsUptoCard

/-- THE SECOND FORM's CARD OF 'marquetrylaw05.ShapePuts'. -/
def shapePutsUptoCard : Claim7 := { stood := { row := shapePutsUptoRow, standIns := [], harness := (true, "052dddd592b64fe42d9c25e56dc379100a74d7a094aaa0264113faccbe8a04f4"), looks := false }, kinds := [], alts := [], laidByText := true, laidKinds := [.data, .pinned], laidTests := true, laidLooks := .later }
def ShapePutsUptoCardSaid : Prop := Claim7.holds Tryd.pinned (.plain (OpenSpec.upto shapePutsSpec)) shapePutsUptoCard

/-- THE SECOND FORM's CARD OF 'marquetrylaw06.PtypeForms'. -/
def ptypeFormsUptoCard : Claim7 := { stood := { row := ptypeFormsUptoRow, standIns := [], harness := (true, "052dddd592b64fe42d9c25e56dc379100a74d7a094aaa0264113faccbe8a04f4"), looks := false }, kinds := [], alts := [], laidByText := true, laidKinds := [.data, .pinned], laidTests := true, laidLooks := .later }
def PtypeFormsUptoCardSaid : Prop := Claim7.holds Tryd.pinned (.plain (OpenSpec.upto ptypeFormsSpec)) ptypeFormsUptoCard

/-- THE SECOND FORM's CARD OF 'marquetrylaw06.PtypeStops'. -/
def ptypeStopsUptoCard : Claim7 := { stood := { row := ptypeStopsUptoRow, standIns := [], harness := (true, "052dddd592b64fe42d9c25e56dc379100a74d7a094aaa0264113faccbe8a04f4"), looks := false }, kinds := [], alts := [], laidByText := true, laidKinds := [.data, .pinned], laidTests := true, laidLooks := .later }
def PtypeStopsUptoCardSaid : Prop := Claim7.holds Tryd.pinned (.plain (OpenSpec.upto ptypeStopsSpec)) ptypeStopsUptoCard

/-- THE SECOND FORM's CARD OF 'marquetrylaw06.PtypeBack'. -/
def ptypeBackUptoCard : Claim7 := { stood := { row := ptypeBackUptoRow, standIns := [], harness := (true, "052dddd592b64fe42d9c25e56dc379100a74d7a094aaa0264113faccbe8a04f4"), looks := false }, kinds := [], alts := [], laidByText := true, laidKinds := [.data, .pinned], laidTests := true, laidLooks := .later }
def PtypeBackUptoCardSaid : Prop := Claim7.holds Tryd.pinned (.plain (OpenSpec.upto ptypeBackSpec)) ptypeBackUptoCard
end Rows
end Go.Proofs.YtojooakojnelbaaDoor
