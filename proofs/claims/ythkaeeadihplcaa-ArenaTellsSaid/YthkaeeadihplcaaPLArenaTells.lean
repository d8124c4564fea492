/- Plain facts of layer 4 (arena): the law ArenaTells holds of the printed functions. -/
import Derived.Test.YthkaeeadihplcaaPA5
import Derived.Test.YthkaeeadihplcaaGReads
namespace Go.Proofs.Ythkaeeadihplcaa
open Go Go.Am

theorem few_kids (p : List S_Cell) : ∀ c ∈ fewL p, c.fKids.length ≤ 1048576 := fun c h => by have := fewL_kids h; omega

/-- The root of what is opened has the name of the last cell. -/
theorem open_name {p : List S_Cell} {a b : Int} {nm mk : List UInt8} {ks : List Tr} (h : (openT (fewL p)).1 = .node a b nm mk ks) : nm.length ≤ 20 := by
  rcases openT_cases (fewL p) with ⟨h1, _⟩ | ⟨_, h0, _, _, _, _, h1, _⟩
  · rw [h1] at h; cases h
  · rw [h1, nodesL_at (show (fewL p).length - 1 < (fewL p).length by omega)] at h
    injection h with _ _ h2 _ _
    rw [← h2]
    have : (fewL p)[(fewL p).length - 1]'(by omega) ∈ fewL p := List.getElem_mem _
    simp only [fewL, List.mem_map] at this
    obtain ⟨x, _, hx⟩ := this
    simp only [fewL]
    rw [← hx]
    simp [cutC]; omega

theorem law04_ArenaTells_true (p0 : List S_Cell) (_ : (p0.length ≤ maxLen ∧ ∀ y1 ∈ p0, S_Cell.ok y1)) (p1 : List S_Cell) (_ : (p1.length ≤ maxLen ∧ ∀ y2 ∈ p1, S_Cell.ok y2)) : ∃ K, law04_ArenaTells K p0 p1 = some true := by
  refine Ev.get (f := fun K => law04_ArenaTells K p0 p1) ?_
  unfold law04_ArenaTells
  have o0 := ev_ropen (few_kids p0)
  have o1 := ev_ropen (few_kids p1)
  have w0 := openT_w (fewL p0)
  have hn : ∀ {a b nm mk ks}, (openT (fewL p0)).1 = .node a b nm mk ks → nm.length ≤ 20 := open_name
  refine Ev.bind (ev_few p0) (Ev.bind o0 ?_)
  generalize openT (fewL p0) = q at *
  obtain ⟨v3, v4⟩ := q
  refine Ev.bind (ev_few p1) (Ev.bind o1 ?_)
  generalize openT (fewL p1) = q at *
  obtain ⟨v8, v9⟩ := q
  simp only at w0 hn ⊢
  refine Ev.bind (ev_same v3 (by omega) v8) (Ev.bind (ev_rsame v3 (by omega) v8) (Ev.iteF (by simp) ?_))
  refine Ev.bind (ev_size v3 (by omega)) (Ev.bind (ev_rsize v3 (by omega)) (Ev.iteF (by simp) ?_))
  refine Ev.bind (ev_deep v3 (by omega)) (Ev.bind (ev_rdeep v3 (by omega)) (Ev.iteF (by simp) ?_))
  have works : Ev (fun K => (law04_works K).bind fun v => some v) true := Ev.bind ev_works Ev.pure
  cases v3 with
  | nil =>
    refine Ev.bind ev_copyo_nil ?_
    refine Ev.bind (ev_rsame .nil (by omega) .nil) (Ev.iteF (by rw [eqB_t rfl]; simp) ?_)
    exact Ev.ite (fun _ => works) (fun _ => works)
  | node a b nm mk ks =>
    refine Ev.bind (ev_copyo (by omega)) ?_
    refine Ev.bind (ev_rsame _ (by omega) _) (Ev.iteF (by rw [eqB_t rfl]; simp) ?_)
    refine Ev.ite (fun _ => ?_) (fun _ => works)
    have hl := hn rfl
    have hne : Tr.node a b (nm ++ [120]) mk ks ≠ Tr.node a b nm mk ks := fun h => by
      injection h with _ _ h2 _ _
      have := congrArg List.length h2
      simp at this
    refine Ev.opt (catS_ok (by simp; omega)) ?_
    refine Ev.bind (ev_rsame _ (by rw [w_node] at w0 ⊢; omega) _) (Ev.iteF (by rw [eqB_f hne]; simp) ?_)
    exact Ev.bind (ev_same _ (by rw [w_node] at w0 ⊢; omega) _) (Ev.iteF (by rw [eqB_f hne]; simp) works)
end Go.Proofs.Ythkaeeadihplcaa
