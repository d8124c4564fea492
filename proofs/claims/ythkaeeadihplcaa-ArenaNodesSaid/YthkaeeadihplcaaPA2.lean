/- Plain facts of layer 4 (arena), part 2: the document's size and depth; likeness; copies. -/
import Derived.Test.YthkaeeadihplcaaPA1
namespace Go.Proofs.Ythkaeeadihplcaa
open Go Go.Am

theorem ev_rsize_loop {a b : Int} {nm mk : List UInt8} {ks : List Tr} (hl : ks.length ≤ 1099511627776) (ih : ∀ x ∈ ks, Ev (fun K => ref04_Size K x) (sizeT x : Int)) : ∀ (m i s : Nat), ks.length = i + m → s + sizeL (ks.drop i) ≤ 2 * 1099511627776 →
    Ev (fun K => ref04_Size_l0 K a b nm mk ks (s : Int) (i : Int)) ((s + sizeL (ks.drop i) : Nat) : Int) := by
  intro m
  induction m with
  | zero =>
    intro i s hi hs
    refine Ev.step (fun k => by rw [ref04_Size_l0]) ?_
    refine Ev.iteF (dec_f (by omega)) (Ev.pure' ?_)
    rw [List.drop_of_length_le (by omega), sizeL_nil]; rfl
  | succ m ihm =>
    intro i s hi hs
    have hlt : i < ks.length := by omega
    rw [drop_get hlt, sizeL_cons] at hs ⊢
    refine Ev.step (fun k => by rw [ref04_Size_l0]) ?_
    refine Ev.iteT (dec_t (by omega)) (Ev.opt (getI_lt hlt) (Ev.bind (ih _ (List.getElem_mem hlt)) ?_))
    rw [wrap_nat (by omega), wrap_id (by omega) (by omega)]
    have := ihm (i + 1) (s + sizeT ks[i]) (by omega) (by omega)
    rw [Int.natCast_add] at this
    rw [show s + (sizeT ks[i] + sizeL (ks.drop (i + 1))) = s + sizeT ks[i] + sizeL (ks.drop (i + 1)) by omega]
    exact this

theorem ev_rsize : ∀ t : Tr, t.w ≤ 1099511627776 → Ev (fun K => ref04_Size K t) (sizeT t : Int) := Tr.ind
  (fun _ => Ev.step (fun k => by rw [ref04_Size]) (Ev.pure' (by simp [sizeT_nil])))
  fun k n nm mk ks ih h => by
    obtain ⟨h1, h2⟩ := kids_big h
    refine Ev.step (fun k => by rw [ref04_Size]) ?_
    have := ev_rsize_loop (a := k) (b := n) (nm := nm) (mk := mk) h2 (fun x hx => ih x hx (by have := wL_mem hx; omega)) ks.length 0 1 (by omega) (by
      have := sizeL_le (l := ks) fun x _ => sizeT_le x
      simp only [List.drop_zero]; omega)
    rw [sizeT_node]
    simpa using this

theorem ev_deep_loop {ks : List Tr} (hl : ks.length ≤ 1099511627776) (ih : ∀ x ∈ ks, Ev (fun K => arena_Deep K x) (deepT x : Int)) : ∀ (m i d : Nat), ks.length = i + m → d + wL (ks.drop i) ≤ 2 * 1099511627776 →
    Ev (fun K => arena_Deep_l0 K ks (d : Int) (i : Int)) ((deepL (ks.drop i) d + 1 : Nat) : Int) := by
  intro m
  induction m with
  | zero =>
    intro i d hi hs
    refine Ev.step (fun k => by rw [arena_Deep_l0]) ?_
    refine Ev.iteF (dec_f (by omega)) (Ev.pure' ?_)
    rw [List.drop_of_length_le (by omega), deepL_nil, wrap_nat (by omega)]
  | succ m ihm =>
    intro i d hi hs
    have hlt : i < ks.length := by omega
    rw [drop_get hlt, wL_cons] at hs
    rw [drop_get hlt, deepL_cons]
    refine Ev.step (fun k => by rw [arena_Deep_l0]) ?_
    refine Ev.iteT (dec_t (by omega)) (Ev.opt (getI_lt hlt) (Ev.bind (ih _ (List.getElem_mem hlt)) ?_))
    have hd := deepT_le ks[i]
    rw [wrap_nat (by omega), show (if (d : Int) < (deepT ks[i] : Int) then (deepT ks[i] : Int) else (d : Int)) = ((max d (deepT ks[i]) : Nat) : Int) by split <;> omega]
    exact ihm (i + 1) _ (by omega) (by omega)

theorem ev_deep : ∀ t : Tr, t.w ≤ 1099511627776 → Ev (fun K => arena_Deep K t) (deepT t : Int) := Tr.ind
  (fun _ => Ev.step (fun k => by rw [arena_Deep]) (Ev.pure' (by simp [deepT_nil])))
  fun k n nm mk ks ih h => by
    obtain ⟨h1, h2⟩ := kids_big h
    refine Ev.step (fun k => by rw [arena_Deep]) ?_
    have := ev_deep_loop h2 (fun x hx => ih x hx (by have := wL_mem hx; omega)) ks.length 0 0 (by omega) (by simp only [List.drop_zero]; omega)
    rw [deepT_node]
    simpa using this

theorem ev_rdeep_loop {a b : Int} {nm mk : List UInt8} {ks : List Tr} (hl : ks.length ≤ 1099511627776) (ih : ∀ x ∈ ks, Ev (fun K => ref04_Deep K x) (deepT x : Int)) : ∀ (m i d : Nat), ks.length = i + m → d + wL (ks.drop i) ≤ 2 * 1099511627776 →
    Ev (fun K => ref04_Deep_l0 K a b nm mk ks (d : Int) (i : Int)) ((deepL (ks.drop i) d + 1 : Nat) : Int) := by
  intro m
  induction m with
  | zero =>
    intro i d hi hs
    refine Ev.step (fun k => by rw [ref04_Deep_l0]) ?_
    refine Ev.iteF (dec_f (by omega)) (Ev.pure' ?_)
    rw [List.drop_of_length_le (by omega), deepL_nil, Int.add_comm, wrap_nat (by omega)]
  | succ m ihm =>
    intro i d hi hs
    have hlt : i < ks.length := by omega
    rw [drop_get hlt, wL_cons] at hs
    rw [drop_get hlt, deepL_cons]
    refine Ev.step (fun k => by rw [ref04_Deep_l0]) ?_
    refine Ev.iteT (dec_t (by omega)) (Ev.opt (getI_lt hlt) (Ev.bind (ih _ (List.getElem_mem hlt)) ?_))
    have hd := deepT_le ks[i]
    rw [wrap_nat (by omega)]
    refine Ev.ite (fun h => ?_) (fun h => ?_)
    · rw [show max d (deepT ks[i]) = deepT ks[i] by simp only [decide_eq_true_eq] at h; omega]
      exact ihm (i + 1) _ (by omega) (by omega)
    · rw [show max d (deepT ks[i]) = d by simp only [decide_eq_true_eq] at h; omega]
      exact ihm (i + 1) _ (by omega) (by omega)

theorem ev_rdeep : ∀ t : Tr, t.w ≤ 1099511627776 → Ev (fun K => ref04_Deep K t) (deepT t : Int) := Tr.ind
  (fun _ => Ev.step (fun k => by rw [ref04_Deep]) (Ev.pure' (by simp [deepT_nil])))
  fun k n nm mk ks ih h => by
    obtain ⟨h1, h2⟩ := kids_big h
    refine Ev.step (fun k => by rw [ref04_Deep]) ?_
    have := ev_rdeep_loop (a := k) (b := n) (nm := nm) (mk := mk) h2 (fun x hx => ih x hx (by have := wL_mem hx; omega)) ks.length 0 0 (by omega) (by simp only [List.drop_zero]; omega)
    rw [deepT_node]
    simpa using this

open Classical in
/-- Are two things the same? -/
noncomputable def eqB {α : Type} (a b : α) : Bool := decide (a = b)
theorem eqB_t {α : Type} {a b : α} (h : a = b) : eqB a b = true := by simp [eqB, h]
theorem eqB_f {α : Type} {a b : α} (h : a ≠ b) : eqB a b = false := by simp [eqB, h]
theorem eqB_iff {α : Type} {a b : α} : eqB a b = true ↔ a = b := by simp [eqB]
theorem eqB_congr {α β : Type} {a b : α} {c d : β} (h : a = b ↔ c = d) : eqB a b = eqB c d := by
  by_cases e : a = b
  · rw [eqB_t e, eqB_t (h.1 e)]
  · rw [eqB_f e, eqB_f fun k => e (h.2 k)]

theorem cons_iff {α : Type} {a b : α} {l m : List α} (h : a = b) : a :: l = b :: m ↔ l = m := by subst h; exact ⟨fun h => (List.cons.inj h).2, fun h => by rw [h]⟩
theorem cons_ne {α : Type} {a b : α} {l m : List α} (h : a ≠ b) : a :: l ≠ b :: m := fun e => h (List.cons.inj e).1

theorem ev_equal_loop {p q : List Tr} (hl : p.length ≤ 1099511627776) (hpq : p.length = q.length) (ih : ∀ x ∈ p, ∀ y, Ev (fun K => arena_Same K x y) (eqB x y)) : ∀ (m i : Nat), p.length = i + m →
    Ev (fun K => slices_EqualFunc_l0 K p q (i : Int)) (eqB (p.drop i) (q.drop i)) := by
  intro m
  induction m with
  | zero =>
    intro i hi
    refine Ev.step (fun k => by rw [slices_EqualFunc_l0]) ?_
    refine Ev.iteF (dec_f (by omega)) (Ev.pure' ?_)
    rw [List.drop_of_length_le (by omega), List.drop_of_length_le (by omega)]
    exact (eqB_t rfl).symm
  | succ m ihm =>
    intro i hi
    have hlt : i < p.length := by omega
    have hlt' : i < q.length := by omega
    rw [drop_get hlt, drop_get hlt']
    refine Ev.step (fun k => by rw [slices_EqualFunc_l0]) ?_
    refine Ev.iteT (dec_t (by omega)) (Ev.opt (getI_lt hlt) (Ev.opt (getI_lt hlt') (Ev.bind (ih _ (List.getElem_mem hlt) q[i]) ?_)))
    rw [wrap_nat (by omega)]
    by_cases e : p[i] = q[i]
    · rw [eqB_t e]
      refine Ev.iteF (by simp) ?_
      rw [eqB_congr (cons_iff e)]
      exact ihm (i + 1) (by omega)
    · rw [eqB_f e]
      exact Ev.iteT (by simp) (Ev.pure' (eqB_f (cons_ne e)).symm)

theorem ev_same : ∀ a : Tr, a.w ≤ 1099511627776 → ∀ b, Ev (fun K => arena_Same K a b) (eqB a b) := Tr.ind
  (fun _ b => by
    cases b with
    | nil => exact Ev.step (fun k => by rw [arena_Same]) (Ev.pure' (eqB_t rfl).symm)
    | node => exact Ev.step (fun k => by rw [arena_Same]) (Ev.pure' (eqB_f (by simp)).symm))
  fun k n nm mk ks ih h b => by
    obtain ⟨h1, h2⟩ := kids_big h
    cases b with
    | nil => exact Ev.step (fun k => by rw [arena_Same]) (Ev.pure' (eqB_f (by simp)).symm)
    | node k' n' nm' mk' ks' =>
      refine Ev.step (fun k => by rw [arena_Same]) ?_
      refine Ev.ite (fun e1 => ?_) (fun e1 => Ev.pure' (eqB_f (by simp_all)).symm)
      refine Ev.ite (fun e2 => ?_) (fun e2 => Ev.pure' (eqB_f (by simp_all)).symm)
      refine Ev.ite (fun e3 => ?_) (fun e3 => Ev.pure' (eqB_f (by simp_all)).symm)
      refine Ev.ite (fun e4 => ?_) (fun e4 => Ev.pure' (eqB_f (by simp_all)).symm)
      have key : Ev (fun K => slices_EqualFunc K ks ks') (eqB ks ks') := by
        refine Ev.step (fun k => by rw [slices_EqualFunc]) ?_
        refine Ev.ite (fun e => Ev.pure' (eqB_f fun h => by subst h; simp at e).symm) (fun e => ?_)
        have := ev_equal_loop (q := ks') h2 (by simp at e; omega) (fun x hx => ih x hx (by have := wL_mem hx; omega)) ks.length 0 (by omega)
        simpa using this
      refine Ev.bind key (Ev.pure' (eqB_congr ?_))
      simp_all

theorem ev_rsame_loop {a b a' b' : Int} {nm mk nm' mk' : List UInt8} {p q : List Tr} (hl : p.length ≤ 1099511627776) (hpq : p.length = q.length) (ih : ∀ x ∈ p, ∀ y, Ev (fun K => ref04_Same K x y) (eqB x y)) : ∀ (m i : Nat), p.length = i + m →
    Ev (fun K => ref04_Same_l0 K a b nm mk p a' b' nm' mk' q (i : Int)) (eqB (p.drop i) (q.drop i)) := by
  intro m
  induction m with
  | zero =>
    intro i hi
    refine Ev.step (fun k => by rw [ref04_Same_l0]) ?_
    refine Ev.iteF (dec_f (by omega)) (Ev.pure' ?_)
    rw [List.drop_of_length_le (by omega), List.drop_of_length_le (by omega)]
    exact (eqB_t rfl).symm
  | succ m ihm =>
    intro i hi
    have hlt : i < p.length := by omega
    have hlt' : i < q.length := by omega
    rw [drop_get hlt, drop_get hlt']
    refine Ev.step (fun k => by rw [ref04_Same_l0]) ?_
    refine Ev.iteT (dec_t (by omega)) (Ev.opt (getI_lt hlt) (Ev.opt (getI_lt hlt') (Ev.bind (ih _ (List.getElem_mem hlt) q[i]) ?_)))
    rw [wrap_nat (by omega)]
    by_cases e : p[i] = q[i]
    · rw [eqB_t e]
      refine Ev.iteF (by simp) ?_
      rw [eqB_congr (cons_iff e)]
      exact ihm (i + 1) (by omega)
    · rw [eqB_f e]
      exact Ev.iteT (by simp) (Ev.pure' (eqB_f (cons_ne e)).symm)

theorem ev_rsame : ∀ a : Tr, a.w ≤ 1099511627776 → ∀ b, Ev (fun K => ref04_Same K a b) (eqB a b) := Tr.ind
  (fun _ b => by
    cases b with
    | nil => exact Ev.step (fun k => by rw [ref04_Same]) (Ev.pure' (eqB_t rfl).symm)
    | node => exact Ev.step (fun k => by rw [ref04_Same]) (Ev.pure' (eqB_f (by simp)).symm))
  fun k n nm mk ks ih h b => by
    obtain ⟨h1, h2⟩ := kids_big h
    cases b with
    | nil => exact Ev.step (fun k => by rw [ref04_Same]) (Ev.pure' (eqB_f (by simp)).symm)
    | node k' n' nm' mk' ks' =>
      refine Ev.step (fun k => by rw [ref04_Same]) ?_
      refine Ev.ite (fun e1 => Ev.pure' (eqB_f (by simp_all)).symm) (fun e1 => ?_)
      refine Ev.ite (fun e2 => Ev.pure' (eqB_f (by simp_all)).symm) (fun e2 => ?_)
      refine Ev.ite (fun e3 => Ev.pure' (eqB_f (by simp_all)).symm) (fun e3 => ?_)
      refine Ev.ite (fun e4 => Ev.pure' (eqB_f (by simp_all)).symm) (fun e4 => ?_)
      refine Ev.ite (fun e5 => Ev.pure' (eqB_f fun h => by cases h; simp at e5).symm) (fun e5 => ?_)
      have := ev_rsame_loop (a := k) (b := n) (nm := nm) (mk := mk) (a' := k') (b' := n') (nm' := nm') (mk' := mk') (q := ks') h2 (by simp at e5; omega) (fun x hx => ih x hx (by have := wL_mem hx; omega)) ks.length 0 (by omega)
      rw [eqB_congr (show Tr.node k n nm mk ks = Tr.node k' n' nm' mk' ks' ↔ ks = ks' by simp_all)]
      simpa using this
end Go.Proofs.Ythkaeeadihplcaa
