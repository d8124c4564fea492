/- Joined texts: SxR. -/
import Derived.Test.YtnogkihchgnbcaaGreatDoorGx
import Derived.Shelf.Strings.Repeat
/- strings.Repeat by the library's own contract: what it comes to, as a signature. -/
namespace Go.Sx
open Go Go.Am Go.RowKit
variable {P : Program}
theorem sigok_repeat {fid : Nat} {f : Nat → List UInt8 → Int → Option (List UInt8)} {K : Nat} (hfn : ∃ fn, P.funcs[fid]? = some fn ∧ fn.body.isNone = false ∧ (fn.name == "runtime.NumGoroutine") = false)
    (hf : ∀ l c y, f K l c = some y → ∃ n : Nat, c = (n : Int) ∧ y = Lib.repeatL l n ∧ n ≤ 9223372036854775807 ∧ l.length * n ≤ 140737488355328)
    (h1 : ∀ (s : ByteArray) (c : Nat) (w : World), c ≤ 9223372036854775807 → s.size * c ≤ 140737488355328 →
      Calls P fid #[.string s, .int .i64 c] w fun e w' => e = .returned (.string ⟨(Lib.repeatL s.data.toList c).toArray⟩) ∧ Below w.heap.size w w') :
    SigOk P { fid := fid, Γ := [.str, .int .i64], args := [(.var 0), (.var 1)], sto := [], nk := 0, nr := 0, Δ := [.str], res := (.var 0), sto' := [], nk' := 0, f := fun k x => f k x.1 x.2 } K := by
  refine ⟨hfn, fun ids x y hy => ?_⟩
  intro w m i cargs hr hv
  obtain ⟨v1, l1, rfl, g1, v2, l2, rfl, g2, rfl⟩ := hv
  have g1 : v1 = .string ⟨x.1.toArray⟩ := g1
  have g2 : v2 = .int .i64 x.2 := g2
  subst g1 g2
  obtain ⟨n, e1, e2, e3, e4⟩ := hf _ _ _ hy
  have hs : (⟨x.1.toArray⟩ : ByteArray).size = x.1.length := by simp [ByteArray.size]
  have key := h1 ⟨x.1.toArray⟩ n w e3 (by rw [hs]; exact e4)
  have e1' : x.2 = (n : Int) := e1
  rw [← e1'] at key
  refine key.mono ?_
  rintro e w' ⟨rfl, hbel⟩
  obtain ⟨r1, r2⟩ := rel_below hr hbel
  refine ⟨_, _, _, m, i, rfl, ⟨ids, fun _ _ => rfl, rfl, rfl⟩, ?_, r1, r2⟩
  show Value.string _ = .string ⟨(y : List UInt8).toArray⟩
  rw [e2]
end Go.Sx

