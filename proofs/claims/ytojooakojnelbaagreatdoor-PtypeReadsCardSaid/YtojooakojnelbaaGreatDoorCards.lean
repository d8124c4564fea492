/-
  DERIVED. GIVEN WITH THE SEED: THE CARDS: each row of YtojooakojnelbaaGreatDoorRows.lean that lists a variable, with what it lists TIED to the program's text (the seventh form; the later family's looks); each row that meets fmt, with fmt's text TOLD by the authors' own Lean function (tested against real Go, not proved from fmt's source: count such statements apart). THE CARD IS WHAT COUNTS. Prove the row's statement (the work); the ties are given (YtojooakojnelbaaGreatDoorTie.lean); close each card by the builder's one call (the guide's Derived/Test/ToyasCard.lean, 'card_holds'). Laid BY PROGRAM, IN A SANDBOX (cutbox-door.mjs). By AI agents, Wed Nov 11 2026. No macro, syntax, notation, axiom, sorry.
-/
import Derived.Test.YtojooakojnelbaaGreatDoorRows
import GoSem.ClaimSeven
namespace Go.Proofs.YtojooakojnelbaaGreatDoor
namespace Rows

/-- THE TIED CARD OF 'marquetrylaw06.PtypeReads'. -/
def ptypeReadsCard : Claim7 := { stood := { row := ptypeReadsRow, standIns := [], harness := (true, "243f326b480063204e7d845f28df85a94134cc98e385e03b6a64fe833aab8e9a"), looks := false }, kinds := [], alts := [], laidByText := true, laidKinds := [.data, .pinned], laidTests := true, laidLooks := .later }
def PtypeReadsCardSaid : Prop := Claim7.holds Tryz.pinned (.plain (OpenSpec.ofChange ptypeReadsSpec)) ptypeReadsCard

/-- THE TIED CARD OF 'marquetrylaw06.PtypeWrites'. -/
def ptypeWritesCard : Claim7 := { stood := { row := ptypeWritesRow, standIns := [], harness := (true, "243f326b480063204e7d845f28df85a94134cc98e385e03b6a64fe833aab8e9a"), looks := false }, kinds := [], alts := [], laidByText := true, laidKinds := [.data, .pinned], laidTests := true, laidLooks := .later }
def PtypeWritesCardSaid : Prop := Claim7.holds Tryz.pinned (.plain (OpenSpec.ofChange ptypeWritesSpec)) ptypeWritesCard

/-- THE TIED CARD OF 'marquetrylaw06.PtypeParses'. -/
def ptypeParsesCard : Claim7 := { stood := { row := ptypeParsesRow, standIns := [], harness := (true, "243f326b480063204e7d845f28df85a94134cc98e385e03b6a64fe833aab8e9a"), looks := false }, kinds := [], alts := [], laidByText := true, laidKinds := [.data, .pinned], laidTests := true, laidLooks := .later }
def PtypeParsesCardSaid : Prop := Claim7.holds Tryz.pinned (.plain (OpenSpec.ofChange ptypeParsesSpec)) ptypeParsesCard

/-- THE SECOND FORM's CARD OF 'marquetrylaw06.PtypeReads'. -/
def ptypeReadsUptoCard : Claim7 := { stood := { row := ptypeReadsUptoRow, standIns := [], harness := (true, "243f326b480063204e7d845f28df85a94134cc98e385e03b6a64fe833aab8e9a"), looks := false }, kinds := [], alts := [], laidByText := true, laidKinds := [.data, .pinned], laidTests := true, laidLooks := .later }
def PtypeReadsUptoCardSaid : Prop := Claim7.holds Tryz.pinned (.plain (OpenSpec.upto ptypeReadsSpec)) ptypeReadsUptoCard

/-- THE SECOND FORM's CARD OF 'marquetrylaw06.PtypeWrites'. -/
def ptypeWritesUptoCard : Claim7 := { stood := { row := ptypeWritesUptoRow, standIns := [], harness := (true, "243f326b480063204e7d845f28df85a94134cc98e385e03b6a64fe833aab8e9a"), looks := false }, kinds := [], alts := [], laidByText := true, laidKinds := [.data, .pinned], laidTests := true, laidLooks := .later }
def PtypeWritesUptoCardSaid : Prop := Claim7.holds Tryz.pinned (.plain (OpenSpec.upto ptypeWritesSpec)) ptypeWritesUptoCard

/-- THE SECOND FORM's CARD OF 'marquetrylaw06.PtypeParses'. -/
def ptypeParsesUptoCard : Claim7 := { stood := { row := ptypeParsesUptoRow, standIns := [], harness := (true, "243f326b480063204e7d845f28df85a94134cc98e385e03b6a64fe833aab8e9a"), looks := false }, kinds := [], alts := [], laidByText := true, laidKinds := [.data, .pinned], laidTests := true, laidLooks := .later }
def PtypeParsesUptoCardSaid : Prop := Claim7.holds Tryz.pinned (.plain (OpenSpec.upto ptypeParsesSpec)) ptypeParsesUptoCard
end Rows
end Go.Proofs.YtojooakojnelbaaGreatDoor
