/-
  DERIVED. GIVEN WITH THE SEED: THE CARDS: each row of YtjhfgiieicloeaaGreatDoorRows.lean that lists a variable, with what it lists TIED to the program's text (the seventh form; the later family's looks); each row that meets fmt, with fmt's text TOLD by the authors' own Lean function (tested against real Go, not proved from fmt's source: count such statements apart). THE CARD IS WHAT COUNTS. Prove the row's statement (the work); the ties are given (YtjhfgiieicloeaaGreatDoorTie.lean); close each card by the builder's one call (the guide's Derived/Test/ToyasCard.lean, 'card_holds'). Laid BY PROGRAM, IN A SANDBOX (cutbox-door.mjs). By AI agents, Wed Nov 11 2026. No macro, syntax, notation, axiom, sorry.
-/
import Derived.Test.YtjhfgiieicloeaaGreatDoorRows
import GoSem.ClaimSeven
namespace Go.Proofs.YtjhfgiieicloeaaGreatDoor
namespace Rows

/-- THE TIED CARD OF 'marquetrylaw09.PrintProgs'. -/
def printProgsCard : Claim7 := { stood := { row := printProgsRow, standIns := [], harness := (true, "6d3e77a36a4bbe39b6dc8af748f454e27c58654dc9f00cf5aba36e95f8132534"), looks := false }, kinds := [], alts := [], laidByText := true, laidKinds := [.data, .pinned], laidTests := true, laidLooks := .later }
def PrintProgsCardSaid : Prop := Claim7.holds Tryz.pinned (.plain (OpenSpec.ofChange printProgsSpec)) printProgsCard

/-- THE TIED CARD OF 'marquetrylaw09.PrintWrites'. -/
def printWritesCard : Claim7 := { stood := { row := printWritesRow, standIns := [], harness := (true, "6d3e77a36a4bbe39b6dc8af748f454e27c58654dc9f00cf5aba36e95f8132534"), looks := false }, kinds := [], alts := [], laidByText := true, laidKinds := [.data, .pinned], laidTests := true, laidLooks := .later }
def PrintWritesCardSaid : Prop := Claim7.holds Tryz.pinned (.plain (OpenSpec.ofChange printWritesSpec)) printWritesCard

/-- THE TIED CARD OF 'marquetrylaw09.PrintTwice'. -/
def printTwiceCard : Claim7 := { stood := { row := printTwiceRow, standIns := [], harness := (true, "6d3e77a36a4bbe39b6dc8af748f454e27c58654dc9f00cf5aba36e95f8132534"), looks := false }, kinds := [], alts := [], laidByText := true, laidKinds := [.data, .pinned], laidTests := true, laidLooks := .later }
def PrintTwiceCardSaid : Prop := Claim7.holds Tryz.pinned (.plain (OpenSpec.ofChange printTwiceSpec)) printTwiceCard

/-- THE TIED CARD OF 'marquetrylaw09.PrintBack'. -/
def printBackCard : Claim7 := { stood := { row := printBackRow, standIns := [], harness := (true, "6d3e77a36a4bbe39b6dc8af748f454e27c58654dc9f00cf5aba36e95f8132534"), looks := false }, kinds := [], alts := [], laidByText := true, laidKinds := [.data, .pinned], laidTests := true, laidLooks := .later }
def PrintBackCardSaid : Prop := Claim7.holds Tryz.pinned (.plain (OpenSpec.ofChange printBackSpec)) printBackCard

/-- THE TIED CARD OF 'marquetrylaw09.PrintMods'. -/
def printModsCard : Claim7 := { stood := { row := printModsRow, standIns := [], harness := (true, "6d3e77a36a4bbe39b6dc8af748f454e27c58654dc9f00cf5aba36e95f8132534"), looks := false }, kinds := [], alts := [], laidByText := true, laidKinds := [.data, .pinned], laidTests := true, laidLooks := .later }
def PrintModsCardSaid : Prop := Claim7.holds Tryz.pinned (.plain (OpenSpec.ofChange printModsSpec)) printModsCard

/-- THE SECOND FORM's CARD OF 'marquetrylaw09.PrintProgs'. -/
def printProgsUptoCard : Claim7 := { stood := { row := printProgsUptoRow, standIns := [], harness := (true, "6d3e77a36a4bbe39b6dc8af748f454e27c58654dc9f00cf5aba36e95f8132534"), looks := false }, kinds := [], alts := [], laidByText := true, laidKinds := [.data, .pinned], laidTests := true, laidLooks := .later }
def PrintProgsUptoCardSaid : Prop := Claim7.holds Tryz.pinned (.plain (OpenSpec.upto printProgsSpec)) printProgsUptoCard

/-- THE SECOND FORM's CARD OF 'marquetrylaw09.PrintWrites'. -/
def printWritesUptoCard : Claim7 := { stood := { row := printWritesUptoRow, standIns := [], harness := (true, "6d3e77a36a4bbe39b6dc8af748f454e27c58654dc9f00cf5aba36e95f8132534"), looks := false }, kinds := [], alts := [], laidByText := true, laidKinds := [.data, .pinned], laidTests := true, laidLooks := .later }
def PrintWritesUptoCardSaid : Prop := Claim7.holds Tryz.pinned (.plain (OpenSpec.upto printWritesSpec)) printWritesUptoCard

/-- THE SECOND FORM's CARD OF 'marquetrylaw09.PrintTwice'. -/
def printTwiceUptoCard : Claim7 := { stood := { row := printTwiceUptoRow, standIns := [], harness := (true, "6d3e77a36a4bbe39b6dc8af748f454e27c58654dc9f00cf5aba36e95f8132534"), looks := false }, kinds := [], alts := [], laidByText := true, laidKinds := [.data, .pinned], laidTests := true, laidLooks := .later }
def PrintTwiceUptoCardSaid : Prop := Claim7.holds Tryz.pinned (.plain (OpenSpec.upto printTwiceSpec)) printTwiceUptoCard

/-- THE SECOND FORM's CARD OF 'marquetrylaw09.PrintBack'. -/
def printBackUptoCard : Claim7 := { stood := { row := printBackUptoRow, standIns := [], harness := (true, "6d3e77a36a4bbe39b6dc8af748f454e27c58654dc9f00cf5aba36e95f8132534"), looks := false }, kinds := [], alts := [], laidByText := true, laidKinds := [.data, .pinned], laidTests := true, laidLooks := .later }
def PrintBackUptoCardSaid : Prop := Claim7.holds Tryz.pinned (.plain (OpenSpec.upto printBackSpec)) printBackUptoCard

/-- THE SECOND FORM's CARD OF 'marquetrylaw09.PrintMods'. -/
def printModsUptoCard : Claim7 := { stood := { row := printModsUptoRow, standIns := [], harness := (true, "6d3e77a36a4bbe39b6dc8af748f454e27c58654dc9f00cf5aba36e95f8132534"), looks := false }, kinds := [], alts := [], laidByText := true, laidKinds := [.data, .pinned], laidTests := true, laidLooks := .later }
def PrintModsUptoCardSaid : Prop := Claim7.holds Tryz.pinned (.plain (OpenSpec.upto printModsSpec)) printModsUptoCard
end Rows
end Go.Proofs.YtjhfgiieicloeaaGreatDoor
