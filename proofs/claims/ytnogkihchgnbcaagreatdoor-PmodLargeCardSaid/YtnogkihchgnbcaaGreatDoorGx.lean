/- Joined texts: SxJ. -/
import Derived.Test.YtnogkihchgnbcaaGreatDoorGd
import Derived.Shelf.Strings.OnBuilder
/- strings.Join by the library's own contract: what it comes to, as a signature. -/
namespace Go.Sx
open Go Go.Am Go.RowKit
variable {P : Program}

theorem rel_below {w w' : World} {m : Mu} {i : Io} {s : Store} (h : Rel w m i s) (hb : Below w.heap.size w w') : Rel w' m i s ∧ Step w m i s w' m i s := by
  refine ⟨⟨fun b o v hv => ?_, fun p hp => (h.obj p hp).mono_block (Mu.le_refl _) (Io.le_refl _) (fun b hbb => hb.block b ((h.obj p hp).lt hbb)) (fun _ _ _ => rfl), h.apart, h.fin, h.tab⟩,
    ⟨hb.os, hb.tape, hb.output, hb.size, Mu.le_refl _, Io.le_refl _, fun b hlt _ => hb.block b hlt, fun _ _ _ _ => rfl, fun p hp => .inl ⟨p, hp, rfl⟩, fun _ h => .inl h⟩⟩
  have h1 := h.mu _ _ _ hv
  have hlt := World.block_lt_of_cell? w _ h1.1
  refine ⟨?_, h1.2⟩
  rw [← h1.1]
  unfold World.cell?
  simp only [hb.block b hlt]

end Go.Sx

