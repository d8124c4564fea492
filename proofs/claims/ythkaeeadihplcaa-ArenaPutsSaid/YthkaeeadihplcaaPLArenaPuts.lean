/- Plain facts of layer 4 (arena): the law ArenaPuts holds of the printed functions. -/
import Derived.Test.YthkaeeadihplcaaPA9
import Derived.Test.YthkaeeadihplcaaGReads
namespace Go.Proofs.Ythkaeeadihplcaa
open Go Go.Am

theorem few_kids (p : List S_Cell) : ∀ c ∈ fewL p, c.fKids.length ≤ 1048576 := fun c h => by have := fewL_kids h; omega

theorem atR_w : ∀ (p : List Int) (t : Tr), (atR t p).1.w ≤ t.w
  | [], t => by simp [atR]
  | k :: p, t => by
    rw [atR]
    by_cases h : kidAt t k = .nil
    · rw [if_pos h]; exact w_pos t
    · rw [if_neg h]
      have := atR_w p (kidAt t k)
      have := kidAt_w h
      omega
theorem atT_w (t : Tr) (p : List Int) : (atT t p).1.w ≤ t.w := by
  unfold atT
  cases t with
  | nil => exact Nat.le_refl _
  | node => exact atR_w _ _

theorem wL_set : ∀ (l : List Tr) (i : Nat) (x : Tr), wL (l.set i x) ≤ wL l + x.w
  | [], i, x => by simp [wL_nil]
  | k :: l, 0, x => by rw [List.set_cons_zero, wL_cons, wL_cons]; omega
  | k :: l, i + 1, x => by rw [List.set_cons_succ, wL_cons, wL_cons]; have := wL_set l i x; omega

theorem putR_w : ∀ (p : List Int) (t s : Tr), (putR t p s).w ≤ t.w * (p.length + 1) + s.w
  | [], t, s => by simp [putR]
  | k :: p, .nil, s => by rw [putR]; simp [Tr.w]; omega
  | k :: p, .node a b nm mk ks, s => by
    rw [putR, w_node, w_node]
    have h1 := wL_set ks k.toNat (putR (kidAt (.node a b nm mk ks) k) p s)
    have h2 := putR_w p (kidAt (.node a b nm mk ks) k) s
    have h3 : (kidAt (.node a b nm mk ks) k).w ≤ 1 + wL ks := by
      by_cases h : kidAt (.node a b nm mk ks) k = .nil
      · rw [h]; simp [Tr.w]
      · have := kidAt_w h; rw [w_node] at this; omega
    have h4 := Nat.mul_le_mul_right (p.length + 1) h3
    rw [List.length_cons, Nat.mul_succ]
    omega

theorem putT_w {t : Tr} {p : List Int} {s : Tr} : (putT t p s).1.w ≤ t.w * (p.length + 1) + s.w := by
  unfold putT
  split
  · have := w_pos s; show Tr.nil.w ≤ _; simp only [Tr.w]; omega
  · cases s with
    | nil => simp only [Tr.w]; omega
    | node => exact putR_w _ _ _

theorem law04_ArenaPuts_true (p0 : List S_Cell) (_ : (p0.length ≤ maxLen ∧ ∀ y1 ∈ p0, S_Cell.ok y1)) (p1 : List Int) (_ : (p1.length ≤ maxLen ∧ ∀ y2 ∈ p1, (Lit.int .i64 y2).wf = true)) (p2 : List S_Cell) (_ : (p2.length ≤ maxLen ∧ ∀ y3 ∈ p2, S_Cell.ok y3)) : ∃ K, law04_ArenaPuts K p0 p1 p2 = some true := by
  refine Ev.get (f := fun K => law04_ArenaPuts K p0 p1 p2) ?_
  unfold law04_ArenaPuts
  have o0 := ev_ropen (few_kids p0)
  have o2 := ev_ropen (few_kids p2)
  have w0 := openT_w (fewL p0)
  have w2 := openT_w (fewL p2)
  have works : Ev (fun K => (law04_works K).bind fun v => some v) true := Ev.bind ev_works Ev.pure
  generalize openT (fewL p0) = q at *
  obtain ⟨v3, v4⟩ := q
  generalize openT (fewL p2) = q at *
  obtain ⟨v13, v14⟩ := q
  simp only at w0 w2 ⊢
  refine Ev.bind (ev_few p0) (Ev.bind o0 (Ev.bind (ev_few p0) (Ev.bind o0 (Ev.bind (ev_few p2) (Ev.bind o2 ?_)))))
  refine Ev.opt (sub_min (m := 30)) ?_
  have hp : (p1.take 30).length ≤ 30 := by simp; omega
  generalize p1.take 30 = path at *
  have a1 := ev_at v3 (p := path) (by omega)
  have a2 := ev_rat v3 (p := path) (by omega)
  have aw := atT_w v3 path
  generalize atT v3 path = q at *
  obtain ⟨v17, v18⟩ := q
  have b1 := ev_Put (t := v3) (p := path) (s := v13) (by omega) (by omega)
  have b2 := ev_rPut (t := v3) (p := path) (s := v13) (by omega) (by omega)
  have bw : (putT v3 path v13).1.w ≤ 1000000 := by
    have h1 := putT_w (t := v3) (p := path) (s := v13)
    have h2 : v3.w * (path.length + 1) ≤ 8192 * 31 := Nat.mul_le_mul w0 (by omega)
    omega
  generalize putT v3 path v13 = q at *
  obtain ⟨v23, v24⟩ := q
  simp only at aw bw
  refine Ev.bind a1 (Ev.bind a2 (Ev.bind b1 (Ev.bind b2 ?_)))
  have tail : ∀ kind : Int, Ev (fun K => (arena_Paths K v3 kind).bind fun v42 => ((ref04_Paths K v3 kind).bind fun v44 => ((ref04_SamePaths K v42 v44).bind fun v46 => (if v46 = true then ((law04_works K).bind fun v49 => (some v49)) else (some false))))) true := fun kind =>
    Ev.bind (ev_paths (by omega)) (Ev.bind (ev_rpaths v3 (by omega)) (Ev.bind (ev_samepaths (by have := pathsT_len kind v3; omega) (fun c hc => by have := pathsT_deep kind v3 c hc; omega)) (Ev.iteT (eqB_t rfl) works)))
  refine Ev.ite (fun h => ?_) (fun _ => ?_)
  · simp only [decide_eq_true_eq] at h
    obtain ⟨k, path', rfl⟩ : ∃ k path', path = k :: path' := by
      cases path with
      | nil => simp at h
      | cons k path' => exact ⟨k, path', rfl⟩
    refine Ev.opt (a := k) rfl ?_
    refine Ev.bind (ev_rsame v17 (by omega) v17) (Ev.iteT (eqB_t rfl) (Ev.iteT (dec_t rfl) ?_))
    refine Ev.bind (ev_rsame v23 (by omega) v23) (Ev.iteT (eqB_t rfl) (Ev.iteT (dec_t rfl) ?_))
    exact Ev.bind (ev_rsame v3 (by omega) v3) (Ev.iteT (eqB_t rfl) (tail k))
  · refine Ev.bind (ev_rsame v17 (by omega) v17) (Ev.iteT (eqB_t rfl) (Ev.iteT (dec_t rfl) ?_))
    refine Ev.bind (ev_rsame v23 (by omega) v23) (Ev.iteT (eqB_t rfl) (Ev.iteT (dec_t rfl) ?_))
    exact Ev.bind (ev_rsame v3 (by omega) v3) (Ev.iteT (eqB_t rfl) (tail (-1)))
end Go.Proofs.Ythkaeeadihplcaa
