/- Plain facts of layer 4 (arena): the law ArenaOpens holds of the printed functions. -/
import Derived.Test.YthkaeeadihplcaaPA6
import Derived.Test.YthkaeeadihplcaaGReads
namespace Go.Proofs.Ythkaeeadihplcaa
open Go Go.Am

theorem few_kids (p : List S_Cell) : ∀ c ∈ fewL p, c.fKids.length ≤ 1048576 := fun c h => by have := fewL_kids h; omega

theorem cells_kids : ∀ (t : Tr) (f : Nat), t.w ≤ 1099511627776 → ∀ c ∈ cellsT t f, c.fKids.length ≤ 1099511627776 := by
  have loop : ∀ (l : List Tr) (f : Nat) (kids : List Int) (out : List S_Cell), (∀ x ∈ l, ∀ f, ∀ c ∈ cellsT x f, c.fKids.length ≤ 1099511627776) → (∀ c ∈ out, c.fKids.length ≤ 1099511627776) →
      (∀ c ∈ (cellsL l f kids out).2, c.fKids.length ≤ 1099511627776) ∧ (cellsL l f kids out).1.length = kids.length + l.length := by
    intro l
    induction l with
    | nil => intro f kids out _ ho; rw [cellsL_nil]; exact ⟨ho, by simp⟩
    | cons t l ih =>
      intro f kids out hx ho
      rw [cellsL_cons]
      obtain ⟨h1, h2⟩ := ih f (kids ++ [((f + (out ++ cellsT t (f + out.length)).length : Nat) : Int) - 1]) (out ++ cellsT t (f + out.length)) (fun x hx' => hx x (List.mem_cons_of_mem _ hx')) fun c hc => by
        rcases List.mem_append.1 hc with h | h
        · exact ho c h
        · exact hx t List.mem_cons_self _ c h
      exact ⟨h1, by rw [h2]; simp; omega⟩
  refine Tr.ind (fun f _ c hc => by rw [cellsT_nil] at hc; cases hc) fun k n nm mk ks ih f hw c hc => ?_
  obtain ⟨hw1, hw2⟩ := kids_big hw
  obtain ⟨h1, h2⟩ := loop ks f [] [] (fun x hx f' => ih x hx f' (by have := wL_mem hx; omega)) (by simp)
  rw [cellsT_node] at hc
  rcases List.mem_append.1 hc with h | h
  · exact h1 c h
  · rw [List.mem_singleton.1 h]
    show (cellsL ks f [] []).1.length ≤ _
    rw [h2]; simp; omega

theorem law04_ArenaOpens_true (p0 : List S_Cell) (_ : (p0.length ≤ maxLen ∧ ∀ y1 ∈ p0, S_Cell.ok y1)) : ∃ K, law04_ArenaOpens K p0 = some true := by
  refine Ev.get (f := fun K => law04_ArenaOpens K p0) ?_
  unfold law04_ArenaOpens
  have o0 := ev_open (few_kids p0)
  have o1 := ev_ropen (few_kids p0)
  have w0 := openT_w (fewL p0)
  generalize openT (fewL p0) = q at *
  obtain ⟨v3, v4⟩ := q
  simp only at w0 ⊢
  refine Ev.bind (ev_few p0) (Ev.bind o0 (Ev.bind o1 ?_))
  have works : Ev (fun K => (law04_works K).bind fun v => some v) true := Ev.bind ev_works Ev.pure
  refine Ev.bind (ev_rsame v3 (by omega) v3) (Ev.iteF (by rw [eqB_t rfl]; simp) (Ev.iteF (ndec_f rfl) ?_))
  refine Ev.ite (fun _ => works) (fun _ => ?_)
  refine Ev.bind (ev_pack v3 (by omega)) ?_
  have hp := ev_rpack v3 (by omega)
  have hs : ∀ c ∈ (packT v3).1, c.fKids.length ≤ 1099511627776 := by
    unfold packT
    split
    · split
      · intro c hc; cases hc
      · exact cells_kids v3 0 (by omega)
    · intro c hc; cases hc
  have hl : (packT v3).1.length ≤ 1099511627776 := by
    unfold packT
    split
    · split
      · simp
      · rw [cellsT_len]; omega
    · simp
  generalize packT v3 = q at *
  obtain ⟨v17, v18⟩ := q
  refine Ev.bind hp ?_
  refine Ev.bind (ev_samecells hl hs) (Ev.iteT (eqB_t rfl) (Ev.iteT (dec_t rfl) works))
end Go.Proofs.Ythkaeeadihplcaa
