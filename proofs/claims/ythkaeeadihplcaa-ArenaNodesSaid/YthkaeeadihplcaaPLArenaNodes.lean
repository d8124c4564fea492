/- Plain facts of layer 4 (arena): the law ArenaNodes holds of the printed functions. -/
import Derived.Test.YthkaeeadihplcaaPA10
import Derived.Test.YthkaeeadihplcaaGReads
namespace Go.Proofs.Ythkaeeadihplcaa
open Go Go.Am

theorem few_kids (p : List S_Cell) : ∀ c ∈ fewL p, c.fKids.length ≤ 1048576 := fun c h => by have := fewL_kids h; omega

theorem nodes_l1 {t : Tr} {l : List (List Int)} {kind : Int} {i : Nat} {a b : Int} {nm mk : List UInt8} {ks : List Tr} (hl : l.length ≤ 1099511627776) (hi : i < l.length) (hd : ∀ p ∈ l, p.length ≤ 1099511627776) (ho : l.Pairwise fun x y => ¬ y <+: x)
    (next : Ev (fun K => law04_ArenaNodes_l0 K kind t l (((i + 1 : Nat) : Nat) : Int)) true) : ∀ (m k : Nat), i = k + m → Ev (fun K => law04_ArenaNodes_l1 K kind t l (i : Int) l[i] a b nm mk ks (k : Int)) true := by
  intro m
  induction m with
  | zero =>
    intro k hk
    refine Ev.step (fun k => by rw [law04_ArenaNodes_l1]) ?_
    refine Ev.iteF (dec_f (by omega)) ?_
    rw [wrap_nat (by omega)]
    exact next
  | succ m ih =>
    intro k hk
    have hkl : k < l.length := by omega
    have hp := List.pairwise_iff_getElem.1 ho k i hkl hi (by omega)
    have ih' := ih (k + 1) (by omega)
    refine Ev.step (fun k => by rw [law04_ArenaNodes_l1]) ?_
    refine Ev.iteT (dec_t (by omega)) (Ev.opt (getI_lt hkl) (Ev.bind (ev_path (hd _ (List.getElem_mem hkl))) ?_))
    refine Ev.iteF (by rw [eqB_f (fun e => hp (by rw [e]; exact List.prefix_rfl))]; simp) (Ev.opt (getI_lt hkl) ?_)
    rw [wrap_nat (by omega)]
    refine Ev.ite (fun h => ?_) (fun _ => ih')
    simp only [decide_eq_true_eq] at h
    refine Ev.opt (getI_lt hkl) (Ev.opt (subL_ok (a := 0) (by omega) (by omega)) ?_)
    have hne : (l[k].take l[i].length).drop 0 ≠ l[i] := fun e => hp (List.prefix_iff_eq_take.2 (by rw [List.drop_zero] at e; exact e.symm))
    refine Ev.bind (ev_path (by have := hd _ (List.getElem_mem hkl); simp; omega)) ?_
    rw [eqB_f hne]
    exact Ev.iteF (by simp) ih'

theorem nodes_l2 {t : Tr} {l : List (List Int)} {kind : Int} {i : Nat} (hl : l.length ≤ 1099511627776) (hi : i < l.length) (hd : ∀ p ∈ l, p.length ≤ 1099511627776) (ho : l.Pairwise fun x y => ¬ y <+: x)
    (next : Ev (fun K => law04_ArenaNodes_l0 K kind t l (((i + 1 : Nat) : Nat) : Int)) true) : ∀ (m k : Nat), i = k + m → Ev (fun K => law04_ArenaNodes_l2 K kind t l (i : Int) l[i] (k : Int)) true := by
  intro m
  induction m with
  | zero =>
    intro k hk
    refine Ev.step (fun k => by rw [law04_ArenaNodes_l2]) ?_
    refine Ev.iteF (dec_f (by omega)) ?_
    rw [wrap_nat (by omega)]
    exact next
  | succ m ih =>
    intro k hk
    have hkl : k < l.length := by omega
    have hp := List.pairwise_iff_getElem.1 ho k i hkl hi (by omega)
    have ih' := ih (k + 1) (by omega)
    refine Ev.step (fun k => by rw [law04_ArenaNodes_l2]) ?_
    refine Ev.iteT (dec_t (by omega)) (Ev.opt (getI_lt hkl) (Ev.bind (ev_path (hd _ (List.getElem_mem hkl))) ?_))
    refine Ev.iteF (by rw [eqB_f (fun e => hp (by rw [e]; exact List.prefix_rfl))]; simp) (Ev.opt (getI_lt hkl) ?_)
    rw [wrap_nat (by omega)]
    refine Ev.ite (fun h => ?_) (fun _ => ih')
    simp only [decide_eq_true_eq] at h
    refine Ev.opt (getI_lt hkl) (Ev.opt (subL_ok (a := 0) (by omega) (by omega)) ?_)
    have hne : (l[k].take l[i].length).drop 0 ≠ l[i] := fun e => hp (List.prefix_iff_eq_take.2 (by rw [List.drop_zero] at e; exact e.symm))
    refine Ev.bind (ev_path (by have := hd _ (List.getElem_mem hkl); simp; omega)) ?_
    rw [eqB_f hne]
    exact Ev.iteF (by simp) ih'

theorem nodes_l0 {t : Tr} {l : List (List Int)} {kind : Int} (hl : l.length ≤ 1099511627776) (hd : ∀ p ∈ l, p.length ≤ 1099511627776) (ho : l.Pairwise fun x y => ¬ y <+: x)
    (hat : ∀ p ∈ l, (atT t p).2 = 0 ∧ (atT t p).1 ≠ .nil ∧ (kind < 0 ∨ kindOf (atT t p).1 = kind)) : ∀ (m i : Nat), l.length = i + m → Ev (fun K => law04_ArenaNodes_l0 K kind t l (i : Int)) true := by
  intro m
  induction m with
  | zero =>
    intro i hi
    refine Ev.step (fun k => by rw [law04_ArenaNodes_l0]) ?_
    exact Ev.iteF (dec_f (by omega)) (Ev.bind ev_works Ev.pure)
  | succ m ih =>
    intro i hi
    have hil : i < l.length := by omega
    have next := ih (i + 1) (by omega)
    obtain ⟨h1, h2, h3⟩ := hat _ (List.getElem_mem hil)
    have ea := ev_at t (hd _ (List.getElem_mem hil))
    refine Ev.step (fun k => by rw [law04_ArenaNodes_l0]) ?_
    refine Ev.iteT (dec_t (by omega)) (Ev.opt (getI_lt hil) ?_)
    generalize atT t l[i] = q at *
    obtain ⟨x, e⟩ := q
    simp only at h1 h2 h3
    subst h1
    refine Ev.bind ea (Ev.iteF (ndec_f rfl) ?_)
    refine Ev.ite (fun h => ?_) (fun _ => nodes_l2 hl hil hd ho next i 0 (by omega))
    simp only [decide_eq_true_eq] at h
    cases x with
    | nil => exact absurd rfl h2
    | node a b nm mk ks =>
      exact Ev.iteF (ndec_f (h3.elim (fun h3 => by omega) id)) (nodes_l1 hl hil hd ho next i 0 (by omega))

theorem law04_ArenaNodes_true (p0 : List S_Cell) (_ : (p0.length ≤ maxLen ∧ ∀ y1 ∈ p0, S_Cell.ok y1)) (p1 : Int) (_ : (Lit.int .i64 p1).wf = true) : ∃ K, law04_ArenaNodes K p0 p1 = some true := by
  refine Ev.get (f := fun K => law04_ArenaNodes K p0 p1) ?_
  unfold law04_ArenaNodes
  have o0 := ev_open (few_kids p0)
  have c0 := openT_cases (fewL p0)
  have w0 := openT_w (fewL p0)
  have works : Ev (fun K => (law04_works K).bind fun v => some v) true := Ev.bind ev_works Ev.pure
  generalize openT (fewL p0) = q at *
  obtain ⟨t, v4⟩ := q
  simp only at c0 w0 ⊢
  refine Ev.bind (ev_few p0) (Ev.bind o0 ?_)
  dsimp only
  rcases c0 with ⟨rfl, c0⟩ | ⟨rfl, _, _, f0, _, _, _⟩
  · refine Ev.iteT (ndec_t c0) (Ev.bind (ev_paths (by omega)) ?_)
    rw [pathsT_nil]
    exact Ev.iteT rfl works
  · refine Ev.iteF (ndec_f rfl) (Ev.bind (ev_paths (by omega)) ?_)
    have ht : ∀ p, atT t p = atR t p := fun p => by
      cases t with
      | nil => rw [fullT_nil] at f0; cases f0
      | node => rfl
    exact nodes_l0 (by have := pathsT_len p1 t; omega) (fun p hp => by have := pathsT_deep p1 t p hp; omega) (paths_order p1 t) (fun p hp => by rw [ht]; exact paths_at p1 t p hp) (pathsT p1 t).length 0 (by omega)
end Go.Proofs.Ythkaeeadihplcaa
