/- Joined texts: Door3. -/
import Derived.Test.YtojooakojnelbaaDoorGe
import Derived.Test.YtojooakojnelbaaDoorGp
/- The arguments of this seat's laws, read out of memory as typed values. -/
namespace Go.Proofs.YtojooakojnelbaaDoor
open Go Go.Am Go.Sx Go.ChangeShapes Go.WideShapes Go.ChangeAt Go.RowKit
theorem und22 : Tryd.prog.underlying 22 = some (.slice 61) := by kernel_rfl
theorem und44 : Tryd.prog.underlying 44 = some (.slice 3) := by kernel_rfl
abbrev tInts : Ty := .list false (.int .i64)
abbrev tCell : Ty := .pair (.int .i64) (.pair (.int .i64) (.pair .str (.pair .str tInts)))
def okI (n : Int) : Prop := (Lit.int .i64 n).wf = true
def okCell (c : Cell) : Prop := okI c.1 ∧ okI c.2.1 ∧ c.2.2.1.length ≤ maxLen ∧ c.2.2.2.1.length ≤ maxLen ∧ c.2.2.2.2.length ≤ maxLen ∧ ∀ n ∈ c.2.2.2.2, okI n
def okCells (l : List Cell) : Prop := l.length ≤ maxLen ∧ ∀ c ∈ l, okCell c
theorem reads_ints : Reads Tryd.prog 44 (X := List Int) (fun l => l.length ≤ maxLen ∧ ∀ n ∈ l, okI n) (fun l => tInts.cells l) :=
  reads_slice (sz := 1) und44 (by kernel_rfl) (by decide) (fun _ => rfl) (reads_int und3)
theorem reads_cell : Reads Tryd.prog 61 okCell (fun c => tCell.cells c) :=
  reads_structB (n := 5) (l := [(3, 0), (3, 1), (9, 2), (9, 3), (44, 4)]) (by kernel_rfl) (by kernel_rfl)
    (readsG_cons (k := 1) (reads_int und3) (by kernel_rfl) (readsG_cons (k := 1) (reads_int und3) (by kernel_rfl) (readsG_cons (k := 1) (reads_string und9) (by kernel_rfl) (readsG_cons (k := 1) (reads_string und9) (by kernel_rfl) (readsG_cons (k := 1) reads_ints (by kernel_rfl) readsG_nil)))))
    (fun ⟨a0, a1, a2, a3, a4, _⟩ ⟨h0, h1, h2, h3, h4, _⟩ => ⟨(a0, a1, a2, a3, a4), ⟨h0, h1, h2, h3, h4.1, h4.2⟩, rfl⟩)
theorem reads_cells : Reads Tryd.prog 22 okCells (fun l => (Ty.list false tCell).cells l) := reads_slice (sz := 5) und22 (by kernel_rfl) (by decide) (fun x => Ty.cells_len tCell x) reads_cell
theorem arg_tree : ReadsArg Tryd.prog 24 okCells (fun l => .agg ((Ty.list false tCell).cells l)) :=
  arg_structB (l := [(22, 0)]) (by kernel_rfl) (reads_structB (n := 1) (l := [(22, 0)]) (by kernel_rfl) (by kernel_rfl) (readsG_cons (k := 1) reads_cells (by kernel_rfl) readsG_nil) (fun a h => ⟨a.1, h.1, by simp⟩))
theorem arg_i64 : ReadsArg Tryd.prog 3 okI (fun n => (Ty.int .i64).av n) := arg_int und3
abbrev Tok := Int × List UInt8 × Int × Int
abbrev tTok : Ty := .pair (.int .i64) (.pair .str (.pair (.int .i64) (.int .i64)))
def okTok (c : Tok) : Prop := okI c.1 ∧ c.2.1.length ≤ maxLen ∧ okI c.2.2.1 ∧ okI c.2.2.2
def okToks (l : List Tok) : Prop := l.length ≤ maxLen ∧ ∀ c ∈ l, okTok c
theorem und49 : Tryd.prog.underlying 49 = some (.slice 74) := by kernel_rfl
theorem reads_tok : Reads Tryd.prog 74 okTok (fun c => tTok.cells c) :=
  reads_structB (n := 4) (l := [(3, 0), (9, 1), (3, 2), (3, 3)]) (by kernel_rfl) (by kernel_rfl)
    (readsG_cons (k := 1) (reads_int und3) (by kernel_rfl) (readsG_cons (k := 1) (reads_string und9) (by kernel_rfl) (readsG_cons (k := 1) (reads_int und3) (by kernel_rfl) (readsG_cons (k := 1) (reads_int und3) (by kernel_rfl) readsG_nil))))
    (fun ⟨a0, a1, a2, a3, _⟩ ⟨h0, h1, h2, h3, _⟩ => ⟨(a0, a1, a2, a3), ⟨h0, h1, h2, h3⟩, rfl⟩)
theorem arg_tokens : ReadsArg Tryd.prog 49 okToks (fun l => (Ty.list false tTok).av l) := arg_slice und49 (reads_slice (sz := 4) und49 (by kernel_rfl) (by decide) (fun x => Ty.cells_len tTok x) reads_tok)
theorem arg_str : ReadsArg Tryd.prog 9 (fun s => s.length ≤ maxLen) (fun s => Ty.str.av s) := arg_string und9
end Go.Proofs.YtojooakojnelbaaDoor

