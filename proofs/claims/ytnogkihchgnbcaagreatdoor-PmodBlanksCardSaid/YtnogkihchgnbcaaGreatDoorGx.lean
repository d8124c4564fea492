/- Joined texts: SxJ. -/
import Derived.Test.YtnogkihchgnbcaaGreatDoorGd
import Derived.Shelf.Strings.OnBuilder
/- strings.Join by the library's own contract: what it comes to, as a signature. -/
namespace Go.Sx
open Go Go.Am Go.RowKit
variable {P : Program}

theorem rel_below {w w' : World} {m : Mu} {i : Io} {s : Store} (h : Rel w m i s) (hb : Below w.heap.size w w') : Rel w' m i s ∧ Step w m i s w' m i s := by
  refine ⟨⟨fun b o v hv => ?_, fun p hp => (h.obj p hp).mono_block (Mu.le_refl _) (Io.le_refl _) (fun b hbb => hb.block b ((h.obj p hp).lt hbb)) (fun _ _ _ => rfl), h.apart, h.fin, h.tab⟩,
    ⟨hb.os, hb.tape, hb.output, hb.size, Mu.le_refl _, Io.le_refl _, fun b hlt _ => hb.block b hlt, fun _ _ _ _ => rfl, fun p hp => .inl ⟨p, hp, rfl⟩, fun _ h => .inl h⟩⟩
  have h1 := h.mu _ _ _ hv
  have hlt := World.block_lt_of_cell? w _ h1.1
  refine ⟨?_, h1.2⟩
  rw [← h1.1]
  unfold World.cell?
  simp only [hb.block b hlt]

theorem vc_strs {m : Mu} {i : Io} {b : Nat} : ∀ (xs : List (List UInt8)) (o : Nat), VC m i (xs.flatMap (Ty.cells .str)) b o → ∀ (j : Nat) x, xs[j]? = some x → m b (o + j) = some (.string ⟨x.toArray⟩)
  | [], _, _, j, x, hx => by simp at hx
  | y :: ys, o, h, j, x, hx => by
    have h : VC m i (.lit (.string ⟨y.toArray⟩) :: ys.flatMap (Ty.cells .str)) b o := by
      rw [List.flatMap_cons] at h; exact h
    obtain ⟨⟨v, h1, h2⟩, h3⟩ := h
    cases j with
    | zero =>
      have e : y = x := by simpa using hx
      subst e
      have : v = .string ⟨y.toArray⟩ := h2
      rw [Nat.add_zero, h1, this]
    | succ j =>
      have := vc_strs ys (o + 1) h3 j x (by simpa using hx)
      rw [show o + (j + 1) = o + 1 + j by omega]; exact this

theorem sigok_join {fid : Nat} {f : Nat → List (List UInt8) → List UInt8 → Option (List UInt8)} {K : Nat} (hfn : ∃ fn, P.funcs[fid]? = some fn ∧ fn.body.isNone = false ∧ (fn.name == "runtime.NumGoroutine") = false)
    (hf : ∀ l sep y, f K l sep = some y → y = Lib.join l sep ∧ (Lib.join l sep).length ≤ 140737488355328 ∧ l.length ≤ 140737488355328)
    (h0 : ∀ (a : Option Addr) (c : Nat) (sep : ByteArray) (w : World), Calls P fid #[.slice a 0 c, .string sep] w fun e w' => e = .returned (.string .empty) ∧ w' = w)
    (h1 : ∀ (bk o c : Nat) (xs : List ByteArray) (sep : ByteArray) (w : World), (∀ (j : Nat) x, xs[j]? = some x → w.cell? ⟨bk, o + j, none⟩ = some (.string x)) → bk < w.heap.size → xs.length ≤ 140737488355328 → xs.length ≤ c →
      (Lib.join (xs.map (·.data.toList)) sep.data.toList).length ≤ 140737488355328 →
      Calls P fid #[.slice (some ⟨bk, o, none⟩) xs.length c, .string sep] w fun e w' => e = .returned (.string ⟨(Lib.join (xs.map (·.data.toList)) sep.data.toList).toArray⟩) ∧ Below w.heap.size w w') :
    SigOk P { fid := fid, Γ := [(.list false .str), .str], args := [(.var 0), (.var 1)], sto := [], nk := 0, nr := 0, Δ := [.str], res := (.var 0), sto' := [], nk' := 0, f := fun k x => f k x.1 x.2 } K := by
  refine ⟨hfn, fun ids x y hy => ?_⟩
  intro w m i cargs hr hv
  obtain ⟨v1, l1, rfl, g1, v2, l2, rfl, g2, rfl⟩ := hv
  have g1 : VR m i (.slc (x.1.flatMap (Ty.cells .str)) x.1.length false) v1 := g1
  have g2 : v2 = .string ⟨x.2.toArray⟩ := g2
  subst g2
  obtain ⟨e1, e2, e3⟩ := hf _ _ _ hy
  obtain ⟨l, sep⟩ := x
  simp only at g1 e1 e2 e3 ⊢
  have none' : ∀ (a : Option Addr) (c : Nat), l = [] → v1 = .slice a 0 c → Calls P fid [v1, .string ⟨sep.toArray⟩].toArray w fun e w' => ∃ v av s' m' i', e = .returned v ∧ (∃ ids', (∀ k, k < 0 → ids' k = ids k) ∧ av = evSV (toRho [.str] y) ids' (.var 0) ∧ s' = stoE [] (toRho [.str] y) ids') ∧ VR m' i' av v ∧ Rel w' m' i' s' ∧ Step w m i [] w' m' i' s' := by
    intro a c hl ha
    subst hl ha
    refine (h0 a c ⟨sep.toArray⟩ w).mono ?_
    rintro e w' ⟨rfl, rfl⟩
    refine ⟨_, _, _, m, i, rfl, ⟨ids, fun _ _ => rfl, rfl, rfl⟩, ?_, hr, Step.refl _ _ _ _⟩
    show Value.string .empty = .string ⟨(y : List UInt8).toArray⟩
    rw [e1]; rfl
  rcases g1 with ⟨hn, _, a, ha⟩ | ⟨b, o, cap, rfl, q2, q3, _, q5⟩
  · exact none' a 0 (List.length_eq_zero_iff.1 hn) (by rw [ha])
  · by_cases hl : l = []
    · exact none' (some ⟨b, o, none⟩) cap hl (by rw [hl]; rfl)
    have hv := vc_strs l o q5
    have hlen : (l.map fun s => (⟨s.toArray⟩ : ByteArray)).length = l.length := by simp
    have hb : (l.map fun s => (⟨s.toArray⟩ : ByteArray)).map (·.data.toList) = l := by
      rw [List.map_map]
      have : ((fun x : ByteArray => x.data.toList) ∘ fun s : List UInt8 => (⟨s.toArray⟩ : ByteArray)) = id := by funext s; simp
      rw [this, List.map_id]
    have hcell : ∀ (j : Nat) x, (l.map fun s => (⟨s.toArray⟩ : ByteArray))[j]? = some x → w.cell? ⟨b, o + j, none⟩ = some (.string x) := by
      intro j x hx
      rw [List.getElem?_map] at hx
      cases hj : l[j]? with
      | none => rw [hj] at hx; cases hx
      | some z =>
        rw [hj] at hx
        cases hx
        exact (hr.mu _ _ _ (hv j z hj)).1
    have hlt : b < w.heap.size := by
      obtain ⟨z, zs, hz⟩ : ∃ z zs, l = z :: zs := by cases l with
        | nil => exact absurd rfl hl
        | cons z zs => exact ⟨z, zs, rfl⟩
      exact World.block_lt_of_cell? w _ (hr.mu _ _ _ (hv 0 z (by rw [hz]; rfl))).1
    have key := h1 b o cap (l.map fun s => (⟨s.toArray⟩ : ByteArray)) ⟨sep.toArray⟩ w hcell hlt (by omega) (by omega) (by rw [hb]; exact e2)
    rw [hb, hlen] at key
    refine key.mono ?_
    rintro e w' ⟨rfl, hbel⟩
    obtain ⟨r1, r2⟩ := rel_below hr hbel
    refine ⟨_, _, _, m, i, rfl, ⟨ids, fun _ _ => rfl, rfl, rfl⟩, ?_, r1, r2⟩
    show Value.string _ = .string ⟨(y : List UInt8).toArray⟩
    rw [e1]
end Go.Sx

