/- Plain facts of layer 4 (arena): the law ArenaBack holds of the printed functions. -/
import Derived.Test.YthkaeeadihplcaaPA7
import Derived.Test.YthkaeeadihplcaaGReads
namespace Go.Proofs.Ythkaeeadihplcaa
open Go Go.Am

theorem few_kids (p : List S_Cell) : ∀ c ∈ fewL p, c.fKids.length ≤ 1048576 := fun c h => by have := fewL_kids h; omega

theorem allK_mem {l : List S_Cell} {c : S_Cell} (h : c ∈ l) : c.fKids.length ≤ (allK l).length := by
  induction l with
  | nil => cases h
  | cons x l ih =>
    rw [show x :: l = [x] ++ l from rfl, allK_append, allK_one, List.length_append]
    rcases List.mem_cons.1 h with rfl | h
    · omega
    · have := ih h; omega

theorem law04_ArenaBack_true (p0 : List S_Cell) (_ : (p0.length ≤ maxLen ∧ ∀ y1 ∈ p0, S_Cell.ok y1)) : ∃ K, law04_ArenaBack K p0 = some true := by
  refine Ev.get (f := fun K => law04_ArenaBack K p0) ?_
  unfold law04_ArenaBack
  have o0 := ev_open (few_kids p0)
  have hc := openT_cases (fewL p0)
  have works : Ev (fun K => (law04_works K).bind fun v => some v) true := Ev.bind ev_works Ev.pure
  generalize openT (fewL p0) = q at *
  obtain ⟨v4, v5⟩ := q
  simp only at hc ⊢
  refine Ev.bind (ev_few p0) (Ev.bind o0 ?_)
  rcases hc with ⟨rfl, hc⟩ | ⟨rfl, h0, h1, h2, h3, h4, _⟩
  · exact Ev.iteT (ndec_t hc) works
  · refine Ev.iteF (ndec_f rfl) ?_
    have hp := ev_pack v4 (by omega)
    have e : packT v4 = (cellsT v4 0, 0) := by unfold packT; rw [if_pos h2, if_neg (by omega)]
    rw [e] at hp
    have hl := cellsT_len v4 0
    have hk : ∀ c ∈ cellsT v4 0, c.fKids.length ≤ 1048576 := fun c hc => by
      have := allK_mem hc
      rw [(laid v4 h2 0).all.length_eq] at this
      simp [upTo] at this
      omega
    have ho := ev_open hk
    rw [open_pack h2 (by omega)] at ho
    refine Ev.bind hp (Ev.bind ho ?_)
    refine Ev.iteT (dec_t rfl) (Ev.iteT (dec_t rfl) (Ev.iteT (dec_t (by show ((cellsT v4 0).length : Int) = _; omega)) ?_))
    refine Ev.bind (ev_same v4 (by omega) v4) (Ev.iteT (eqB_t rfl) (Ev.bind (ev_size v4 (by omega)) (Ev.iteT (dec_t (by omega)) works)))
end Go.Proofs.Ythkaeeadihplcaa
