/- Plain facts of layer 4 (arena): the law ArenaFinds holds of the printed functions. -/
import Derived.Test.YthkaeeadihplcaaPA10
import Derived.Test.YthkaeeadihplcaaGReads
namespace Go.Proofs.Ythkaeeadihplcaa
open Go Go.Am

theorem few_kids (p : List S_Cell) : ∀ c ∈ fewL p, c.fKids.length ≤ 1048576 := fun c h => by have := fewL_kids h; omega

theorem rem_ok {x n : Int} (hn : 0 < n) : remI x n = some (x.tmod n) := by unfold remI; rw [if_neg (by omega)]
theorem rem_lt {x n : Int} (hn : 0 < n) : -n < x.tmod n ∧ x.tmod n < n := ⟨Int.lt_tmod_of_pos x hn, Int.tmod_lt_of_pos x hn⟩
theorem rem_pos {x n : Int} (hx : 0 ≤ x) : 0 ≤ x.tmod n := Int.tmod_nonneg n hx

theorem law04_ArenaFinds_true (p0 : List S_Cell) (_ : (p0.length ≤ maxLen ∧ ∀ y1 ∈ p0, S_Cell.ok y1)) (p1 : List S_Cell) (_ : (p1.length ≤ maxLen ∧ ∀ y2 ∈ p1, S_Cell.ok y2)) (p2 : Int) (_ : (Lit.int .i64 p2).wf = true) : ∃ K, law04_ArenaFinds K p0 p1 p2 = some true := by
  refine Ev.get (f := fun K => law04_ArenaFinds K p0 p1 p2) ?_
  unfold law04_ArenaFinds
  have o0 := ev_open (few_kids p0)
  have o1 := ev_open (few_kids p1)
  have c0 := openT_cases (fewL p0)
  have c1 := openT_cases (fewL p1)
  have works : Ev (fun K => (law04_works K).bind fun v => some v) true := Ev.bind ev_works Ev.pure
  generalize openT (fewL p0) = q at *
  obtain ⟨t, v4⟩ := q
  generalize openT (fewL p1) = q at *
  obtain ⟨s, v9⟩ := q
  simp only at c0 c1 ⊢
  refine Ev.bind (ev_few p0) (Ev.bind o0 (Ev.bind (ev_few p1) (Ev.bind o1 ?_)))
  rcases c0 with ⟨_, c0⟩ | ⟨rfl, l0, m0, f0, z0, w0, _⟩
  · exact Ev.iteT (ndec_t c0) works
  refine Ev.iteF (ndec_f rfl) ?_
  rcases c1 with ⟨_, c1⟩ | ⟨rfl, l1, m1, f1, z1, w1, _⟩
  · exact Ev.iteT (ndec_t c1) works
  refine Ev.iteF (ndec_f rfl) ?_
  have hs : s ≠ .nil := fun e => by subst e; rw [fullT_nil] at f1; cases f1
  have hlen := pathsT_all t
  have hin := fun p (hp : p ∈ pathsT (-1) t) => paths_at (-1) t p hp
  have hdeep := fun p (hp : p ∈ pathsT (-1) t) => pathsT_deep (-1) t p hp
  dsimp only
  refine Ev.bind (ev_paths (by omega)) ?_
  generalize pathsT (-1) t = all at *
  refine Ev.iteF (dec_f (by omega)) (Ev.bind (ev_size t (by omega)) (Ev.iteF (ndec_f (by omega)) ?_))
  have hn : 0 < ((all.length : Nat) : Int) := by omega
  have r1 := rem_lt (x := p2) hn
  refine Ev.opt (rem_ok hn) ?_
  rw [wrap_id (by omega) (by omega)]
  have r2 := rem_lt (x := p2.tmod all.length + all.length) hn
  have r3 := rem_pos (x := p2.tmod all.length + all.length) (n := all.length) (by omega)
  refine Ev.opt (rem_ok hn) ?_
  generalize (p2.tmod all.length + all.length).tmod all.length = ix at *
  refine Ev.opt (getI_int r3 (by omega)) ?_
  have hp := hin _ (List.getElem_mem (show ix.toNat < all.length by omega))
  have hd := hdeep _ (List.getElem_mem (show ix.toNat < all.length by omega))
  generalize all[ix.toNat]'(by omega) = path at *
  obtain ⟨g1, g2, _⟩ := hp
  have ht : t ≠ .nil := fun e => by subst e; rw [fullT_nil] at f0; cases f0
  have ha : ∀ {x : Tr}, x ≠ .nil → atT x path = atR x path := fun {x} hx => by
    cases x with
    | nil => exact absurd rfl hx
    | node => rfl
  have hput : ∀ {x y : Tr}, x ≠ .nil → y ≠ .nil → (atR x path).2 = 0 → putT x path y = (putR x path y, 0) := fun {x y} hx hy h => by
    unfold putT
    rw [ha hx, if_neg (by simpa using h)]
    cases y with
    | nil => exact absurd rfl hy
    | node => rfl
  have hm := putR_ne path t s ht hs
  have hfound := put_found path t s g1 hs
  have hback := put_back path t s g1
  have hsize := put_size path t s g1
  have hso := sizeT_le (atR t path).1
  have hwp : (putR t path s).w ≤ 1099511627776 := by
    have f : ∀ (p : List Int) (t s : Tr), fullT t = true → fullT s = true → (atR t p).2 = 0 → fullT (putR t p s) = true := by
      intro p
      induction p with
      | nil => intro t s _ h _; simpa [putR] using h
      | cons k p ih =>
        intro t s h h' ha
        obtain ⟨a, b, nm, mk, ks, rfl, q0, q1, q2, q3⟩ := at_form ha
        rw [putR, fullT_node, fullL_mem]
        rw [fullT_node, fullL_mem] at h
        intro x hx
        rcases List.mem_or_eq_of_mem_set hx with hx | rfl
        · exact h x hx
        · exact ih _ _ (h _ (by rw [kidAt_in q0 q1]; exact List.getElem_mem q1)) h' q3
    rw [full_w _ (f path t s f0 f1 g1)]
    omega
  have ea := ev_at t (p := path) (by omega)
  rw [ha ht, show atR t path = ((atR t path).1, 0) from Prod.ext rfl g1] at ea
  have ep := ev_Put (t := t) (p := path) (s := s) (by omega) (by omega)
  rw [hput ht hs g1] at ep
  have ea2 := ev_at (putR t path s) (p := path) (by omega)
  rw [ha hm, hfound] at ea2
  have ep2 := ev_Put (t := putR t path s) (p := path) (s := (atR t path).1) (by omega) hwp
  rw [hput hm g2 (by rw [hfound]), hback] at ep2
  have hwo : (atR t path).1.w ≤ 8192 := by
    have gen : ∀ (p : List Int) (t : Tr), (atR t p).1.w ≤ t.w := by
      intro p
      induction p with
      | nil => intro t; simp [atR]
      | cons k p ih =>
        intro t
        rw [atR]
        by_cases h : kidAt t k = .nil
        · rw [if_pos h]; exact w_pos t
        · rw [if_neg h]
          have := ih (kidAt t k)
          have := kidAt_w h
          omega
    have := gen path t
    omega
  refine Ev.bind ea (Ev.bind ep (Ev.bind ea2 (Ev.bind ep2 ?_)))
  dsimp only
  refine Ev.iteF (ndec_f rfl) (Ev.iteF (ndec_f rfl) (Ev.iteF (ndec_f rfl) (Ev.iteF (ndec_f rfl) ?_)))
  refine Ev.bind (ev_same s (by omega) s) (Ev.iteF (by rw [eqB_t rfl]; simp) ?_)
  refine Ev.bind (ev_same t (by omega) t) (Ev.iteF (by rw [eqB_t rfl]; simp) ?_)
  refine Ev.bind (ev_size _ hwp) (Ev.bind (ev_size t (by omega)) (Ev.bind (ev_size _ (by omega)) (Ev.bind (ev_size s (by omega)) ?_)))
  refine Ev.iteT (dec_t ?_) works
  rw [wrap_id (x := (sizeT t : Int) - _) (by omega) (by omega), wrap_id (by omega) (by omega)]
  omega
end Go.Proofs.Ythkaeeadihplcaa
