/- Plain facts of layer 4 (arena), part 9: the paths of a kind. -/
import Derived.Test.YthkaeeadihplcaaPA8
namespace Go.Proofs.Ythkaeeadihplcaa
open Go Go.Am

/-- The paths of a tree's nodes of a kind (below 0: of all). -/
def pathsT (kind : Int) : Tr → List (List Int)
  | .nil => []
  | .node n _ _ _ ks => (if kind < 0 ∨ n = kind then [[]] else []) ++ go ks 0
where go : List Tr → Nat → List (List Int)
  | [], _ => []
  | k :: ks, i => (pathsT kind k).map ((i : Int) :: ·) ++ go ks (i + 1)
abbrev pathsL (kind : Int) (l : List Tr) (i : Nat) : List (List Int) := pathsT.go kind l i
theorem pathsL_nil (kind : Int) (i : Nat) : pathsL kind [] i = [] := by simp [pathsT.go]
theorem pathsL_cons (kind : Int) (k : Tr) (ks : List Tr) (i : Nat) : pathsL kind (k :: ks) i = (pathsT kind k).map ((i : Int) :: ·) ++ pathsL kind ks (i + 1) := by simp [pathsT.go]
theorem pathsT_nil (kind : Int) : pathsT kind .nil = [] := by simp [pathsT]
theorem pathsT_node {kind k n : Int} {nm mk ks} : pathsT kind (Tr.node k n nm mk ks) = (if kind < 0 ∨ k = kind then [[]] else []) ++ pathsL kind ks 0 := by simp [pathsT]
theorem pathsL_len {kind : Int} : ∀ {l : List Tr} (i : Nat), (∀ x ∈ l, (pathsT kind x).length ≤ x.w) → (pathsL kind l i).length ≤ wL l
  | [], i, _ => by simp [pathsL_nil, wL_nil]
  | k :: l, i, h => by
    rw [pathsL_cons, wL_cons, List.length_append, List.length_map]
    have := h k List.mem_cons_self
    have := pathsL_len (l := l) (i + 1) fun x hx => h x (List.mem_cons_of_mem _ hx)
    omega
theorem pathsT_len (kind : Int) : ∀ t : Tr, (pathsT kind t).length ≤ t.w := Tr.ind (by simp [pathsT_nil]) fun k n nm mk ks ih => by
  rw [pathsT_node, w_node, List.length_append]
  have := pathsL_len (kind := kind) 0 ih
  have : (if kind < 0 ∨ k = kind then [[]] else [] : List (List Int)).length ≤ 1 := by split <;> simp
  omega
theorem pathsL_mem {kind : Int} : ∀ {l : List Tr} {i : Nat} {p : List Int}, p ∈ pathsL kind l i → ∃ (j : Nat) (x : Tr) (q : List Int), l[j]? = some x ∧ p = ((i + j : Nat) : Int) :: q ∧ q ∈ pathsT kind x
  | [], i, p, h => by rw [pathsL_nil] at h; cases h
  | k :: l, i, p, h => by
    rw [pathsL_cons] at h
    rcases List.mem_append.1 h with h | h
    · obtain ⟨q, h1, rfl⟩ := List.mem_map.1 h
      exact ⟨0, k, q, rfl, rfl, h1⟩
    · obtain ⟨j, x, q, h1, h2, h3⟩ := pathsL_mem h
      exact ⟨j + 1, x, q, by simpa using h1, by rw [h2]; congr 1; omega, h3⟩
theorem pathsT_deep (kind : Int) : ∀ (t : Tr), ∀ p ∈ pathsT kind t, p.length ≤ t.w := Tr.ind (by simp [pathsT_nil]) fun k n nm mk ks ih p hp => by
  rw [pathsT_node] at hp
  rw [w_node]
  rcases List.mem_append.1 hp with h | h
  · split at h
    · rw [List.mem_singleton.1 h]; simp
    · cases h
  · obtain ⟨j, x, q, h1, rfl, h3⟩ := pathsL_mem h
    have hx := List.mem_of_getElem? h1
    have := ih x hx q h3
    have := wL_mem hx
    simp
    omega

theorem ev_paths_l0 {at' : List Int} {ks : List Tr} {kind : Int} (hl : ks.length ≤ 1099511627776) (ha : at'.length ≤ 1099511627776)
    (ih : ∀ x ∈ ks, ∀ (at' : List Int) (out : List (List Int)), at'.length + x.w ≤ 1099511627776 → out.length + x.w ≤ 1099511627776 → Ev (fun K => arena_Paths_1 K x at' kind out) (kind, out ++ (pathsT kind x).map (at' ++ ·))) :
    ∀ (m i : Nat) (out : List (List Int)), ks.length = i + m → at'.length + 1 + wL (ks.drop i) ≤ 1099511627776 → out.length + wL (ks.drop i) ≤ 1099511627776 →
      Ev (fun K => arena_Paths_1_l0 K at' ks (i : Int) out kind) (kind, out ++ (pathsL kind (ks.drop i) i).map (at' ++ ·)) := by
  intro m
  induction m with
  | zero =>
    intro i out hi h1 h2
    refine Ev.step (fun k => by rw [arena_Paths_1_l0]) ?_
    refine Ev.iteF (dec_f (by omega)) (Ev.pure' ?_)
    rw [List.drop_of_length_le (by omega), pathsL_nil]; simp
  | succ m ihm =>
    intro i out hi h1 h2
    have hlt : i < ks.length := by omega
    rw [drop_get hlt, wL_cons] at h1 h2
    rw [drop_get hlt, pathsL_cons]
    have hn := pathsT_len kind ks[i]
    refine Ev.step (fun k => by rw [arena_Paths_1_l0]) ?_
    refine Ev.iteT (dec_t (by omega)) (Ev.opt (getI_lt hlt) (Ev.opt (appL_ok (by simp; omega)) ?_))
    refine Ev.bind (ih _ (List.getElem_mem hlt) (at' ++ [(i : Int)]) out (by simp; omega) (by omega)) ?_
    rw [wrap_nat (by omega)]
    have := ihm (i + 1) (out ++ (pathsT kind ks[i]).map ((at' ++ [(i : Int)]) ++ ·)) (by omega) (by omega) (by simp; omega)
    have e : out ++ ((pathsT kind ks[i]).map ((i : Int) :: ·) ++ pathsL kind (ks.drop (i + 1)) (i + 1)).map (at' ++ ·) = out ++ (pathsT kind ks[i]).map ((at' ++ [(i : Int)]) ++ ·) ++ (pathsL kind (ks.drop (i + 1)) (i + 1)).map (at' ++ ·) := by
      rw [List.map_append, List.append_assoc, List.map_map]
      congr 2
      apply List.map_congr_left
      intro p _
      simp
    rw [e]
    exact this

theorem ev_paths_l1 {at' : List Int} {ks : List Tr} {kind : Int} (hl : ks.length ≤ 1099511627776) (ha : at'.length ≤ 1099511627776)
    (ih : ∀ x ∈ ks, ∀ (at' : List Int) (out : List (List Int)), at'.length + x.w ≤ 1099511627776 → out.length + x.w ≤ 1099511627776 → Ev (fun K => arena_Paths_1 K x at' kind out) (kind, out ++ (pathsT kind x).map (at' ++ ·))) :
    ∀ (m i : Nat) (out : List (List Int)), ks.length = i + m → at'.length + 1 + wL (ks.drop i) ≤ 1099511627776 → out.length + wL (ks.drop i) ≤ 1099511627776 →
      Ev (fun K => arena_Paths_1_l1 K at' ks (i : Int) out kind) (kind, out ++ (pathsL kind (ks.drop i) i).map (at' ++ ·)) := by
  intro m
  induction m with
  | zero =>
    intro i out hi h1 h2
    refine Ev.step (fun k => by rw [arena_Paths_1_l1]) ?_
    refine Ev.iteF (dec_f (by omega)) (Ev.pure' ?_)
    rw [List.drop_of_length_le (by omega), pathsL_nil]; simp
  | succ m ihm =>
    intro i out hi h1 h2
    have hlt : i < ks.length := by omega
    rw [drop_get hlt, wL_cons] at h1 h2
    rw [drop_get hlt, pathsL_cons]
    have hn := pathsT_len kind ks[i]
    refine Ev.step (fun k => by rw [arena_Paths_1_l1]) ?_
    refine Ev.iteT (dec_t (by omega)) (Ev.opt (getI_lt hlt) (Ev.opt (appL_ok (by simp; omega)) ?_))
    refine Ev.bind (ih _ (List.getElem_mem hlt) (at' ++ [(i : Int)]) out (by simp; omega) (by omega)) ?_
    rw [wrap_nat (by omega)]
    have := ihm (i + 1) (out ++ (pathsT kind ks[i]).map ((at' ++ [(i : Int)]) ++ ·)) (by omega) (by omega) (by simp; omega)
    have e : out ++ ((pathsT kind ks[i]).map ((i : Int) :: ·) ++ pathsL kind (ks.drop (i + 1)) (i + 1)).map (at' ++ ·) = out ++ (pathsT kind ks[i]).map ((at' ++ [(i : Int)]) ++ ·) ++ (pathsL kind (ks.drop (i + 1)) (i + 1)).map (at' ++ ·) := by
      rw [List.map_append, List.append_assoc, List.map_map]
      congr 2
      apply List.map_congr_left
      intro p _
      simp
    rw [e]
    exact this

theorem ev_paths_l2 {at' : List Int} {ks : List Tr} {kind : Int} (hl : ks.length ≤ 1099511627776) (ha : at'.length ≤ 1099511627776)
    (ih : ∀ x ∈ ks, ∀ (at' : List Int) (out : List (List Int)), at'.length + x.w ≤ 1099511627776 → out.length + x.w ≤ 1099511627776 → Ev (fun K => arena_Paths_1 K x at' kind out) (kind, out ++ (pathsT kind x).map (at' ++ ·))) :
    ∀ (m i : Nat) (out : List (List Int)), ks.length = i + m → at'.length + 1 + wL (ks.drop i) ≤ 1099511627776 → out.length + wL (ks.drop i) ≤ 1099511627776 →
      Ev (fun K => arena_Paths_1_l2 K at' ks (i : Int) kind out) (kind, out ++ (pathsL kind (ks.drop i) i).map (at' ++ ·)) := by
  intro m
  induction m with
  | zero =>
    intro i out hi h1 h2
    refine Ev.step (fun k => by rw [arena_Paths_1_l2]) ?_
    refine Ev.iteF (dec_f (by omega)) (Ev.pure' ?_)
    rw [List.drop_of_length_le (by omega), pathsL_nil]; simp
  | succ m ihm =>
    intro i out hi h1 h2
    have hlt : i < ks.length := by omega
    rw [drop_get hlt, wL_cons] at h1 h2
    rw [drop_get hlt, pathsL_cons]
    have hn := pathsT_len kind ks[i]
    refine Ev.step (fun k => by rw [arena_Paths_1_l2]) ?_
    refine Ev.iteT (dec_t (by omega)) (Ev.opt (getI_lt hlt) (Ev.opt (appL_ok (by simp; omega)) ?_))
    refine Ev.bind (ih _ (List.getElem_mem hlt) (at' ++ [(i : Int)]) out (by simp; omega) (by omega)) ?_
    rw [wrap_nat (by omega)]
    have := ihm (i + 1) (out ++ (pathsT kind ks[i]).map ((at' ++ [(i : Int)]) ++ ·)) (by omega) (by omega) (by simp; omega)
    have e : out ++ ((pathsT kind ks[i]).map ((i : Int) :: ·) ++ pathsL kind (ks.drop (i + 1)) (i + 1)).map (at' ++ ·) = out ++ (pathsT kind ks[i]).map ((at' ++ [(i : Int)]) ++ ·) ++ (pathsL kind (ks.drop (i + 1)) (i + 1)).map (at' ++ ·) := by
      rw [List.map_append, List.append_assoc, List.map_map]
      congr 2
      apply List.map_congr_left
      intro p _
      simp
    rw [e]
    exact this

theorem ev_paths1 {kind : Int} : ∀ (t : Tr) (at' : List Int) (out : List (List Int)), at'.length + t.w ≤ 1099511627776 → out.length + t.w ≤ 1099511627776 → Ev (fun K => arena_Paths_1 K t at' kind out) (kind, out ++ (pathsT kind t).map (at' ++ ·)) := Tr.ind
  (fun at' out _ _ => Ev.step (fun k => by rw [arena_Paths_1]) (Ev.pure' (by rw [pathsT_nil]; simp)))
  fun k n nm mk ks ih at' out h1 h2 => by
    rw [w_node] at h1 h2
    have hl := wL_len ks
    refine Ev.step (fun k => by rw [arena_Paths_1]) ?_
    have clone : Ev (fun K => slices_Clone K at') at' := by unfold slices_Clone; exact Ev.opt (appL_ok (by simp; omega)) (Ev.pure' (by simp))
    rw [pathsT_node]
    refine Ev.ite (fun h => ?_) (fun h => Ev.ite (fun h' => ?_) (fun h' => ?_))
    · simp only [decide_eq_true_eq] at h
      rw [if_pos (.inl h)]
      refine Ev.bind clone (Ev.opt (appL_ok (by simp; omega)) ?_)
      have := ev_paths_l0 (at' := at') (by omega) (by omega) ih ks.length 0 (out ++ [at']) (by omega) (by simp; omega) (by simp; omega)
      simpa using this
    · simp only [decide_eq_true_eq] at h'
      rw [if_pos (.inr h')]
      refine Ev.bind clone (Ev.opt (appL_ok (by simp; omega)) ?_)
      have := ev_paths_l1 (at' := at') (by omega) (by omega) ih ks.length 0 (out ++ [at']) (by omega) (by simp; omega) (by simp; omega)
      simpa using this
    · simp only [decide_eq_true_eq] at h h'
      rw [if_neg (by omega)]
      have := ev_paths_l2 (at' := at') (by omega) (by omega) ih ks.length 0 out (by omega) (by simp; omega) (by simp; omega)
      simpa using this

theorem ev_paths {t : Tr} {kind : Int} (h : t.w ≤ 1099511627776) : Ev (fun K => arena_Paths K t kind) (pathsT kind t) := by
  unfold arena_Paths
  refine Ev.bind (ev_paths1 t [] [] (by simpa using h) (by simpa using h)) (Ev.pure' ?_)
  simp

theorem ev_rpaths_l0 {a b kind : Int} {nm mk : List UInt8} {ks : List Tr} (hl : ks.length ≤ 1099511627776)
    (ih : ∀ x ∈ ks, Ev (fun K => ref04_Paths K x kind) (pathsT kind x)) :
    ∀ (m i : Nat) (out : List (List Int)), ks.length = i + m → wL ks ≤ 1099511627776 → out.length + wL (ks.drop i) ≤ 1099511627776 →
      Ev (fun K => ref04_Paths_l0 K kind a b nm mk ks (i : Int) out) (out ++ pathsL kind (ks.drop i) i) := by
  intro m
  induction m with
  | zero =>
    intro i out hi h1 h2
    refine Ev.step (fun k => by rw [ref04_Paths_l0]) ?_
    refine Ev.iteF (dec_f (by omega)) (Ev.pure' ?_)
    rw [List.drop_of_length_le (by omega), pathsL_nil]; simp
  | succ m ihm =>
    intro i out hi h1 h2
    have hlt : i < ks.length := by omega
    rw [drop_get hlt, wL_cons] at h2
    rw [drop_get hlt, pathsL_cons]
    have hn := pathsT_len kind ks[i]
    have hw := wL_mem (List.getElem_mem hlt)
    refine Ev.step (fun k => by rw [ref04_Paths_l0]) ?_
    refine Ev.iteT (dec_t (by omega)) (Ev.opt (getI_lt hlt) (Ev.bind (ih _ (List.getElem_mem hlt)) ?_))
    have next := ihm (i + 1) (out ++ (pathsT kind ks[i]).map ((i : Int) :: ·)) (by omega) h1 (by simp; omega)
    rw [List.append_assoc] at next
    have hlen : ∀ p ∈ pathsT kind ks[i], p.length ≤ 1099511627776 := fun p hp => by have := pathsT_deep kind ks[i] p hp; omega
    generalize pathsT kind ks[i] = lst at *
    have inner : ∀ (m' j : Nat), lst.length = j + m' → Ev (fun K => ref04_Paths_l1 K kind a b nm mk ks (i : Int) lst (j : Int) (out ++ (lst.take j).map ((i : Int) :: ·))) (out ++ (lst.map ((i : Int) :: ·) ++ pathsL kind (ks.drop (i + 1)) (i + 1))) := by
      intro m'
      induction m' with
      | zero =>
        intro j hj
        refine Ev.step (fun k => by rw [ref04_Paths_l1]) ?_
        refine Ev.iteF (dec_f (by omega)) ?_
        rw [wrap_nat (by omega), List.take_of_length_le (by omega)]
        exact next
      | succ m' ihj =>
        intro j hj
        have hjl : j < lst.length := by omega
        have hjj := hlen _ (List.getElem_mem hjl)
        refine Ev.step (fun k => by rw [ref04_Paths_l1]) ?_
        refine Ev.iteT (dec_t (by omega)) (Ev.opt (getI_lt hjl) (Ev.opt (appL_ok (by simp; omega)) (Ev.opt (appL_ok (by simp; omega)) ?_)))
        rw [wrap_nat (by omega)]
        have := ihj (j + 1) (by omega)
        rw [take_get' hjl, List.map_append, List.map_cons, List.map_nil, ← List.append_assoc] at this
        exact this
    simpa using inner lst.length 0 (by omega)

theorem ev_rpaths_l2 {a b kind : Int} {nm mk : List UInt8} {ks : List Tr} (hl : ks.length ≤ 1099511627776)
    (ih : ∀ x ∈ ks, Ev (fun K => ref04_Paths K x kind) (pathsT kind x)) :
    ∀ (m i : Nat) (out : List (List Int)), ks.length = i + m → wL ks ≤ 1099511627776 → out.length + wL (ks.drop i) ≤ 1099511627776 →
      Ev (fun K => ref04_Paths_l2 K kind a b nm mk ks (i : Int) out) (out ++ pathsL kind (ks.drop i) i) := by
  intro m
  induction m with
  | zero =>
    intro i out hi h1 h2
    refine Ev.step (fun k => by rw [ref04_Paths_l2]) ?_
    refine Ev.iteF (dec_f (by omega)) (Ev.pure' ?_)
    rw [List.drop_of_length_le (by omega), pathsL_nil]; simp
  | succ m ihm =>
    intro i out hi h1 h2
    have hlt : i < ks.length := by omega
    rw [drop_get hlt, wL_cons] at h2
    rw [drop_get hlt, pathsL_cons]
    have hn := pathsT_len kind ks[i]
    have hw := wL_mem (List.getElem_mem hlt)
    refine Ev.step (fun k => by rw [ref04_Paths_l2]) ?_
    refine Ev.iteT (dec_t (by omega)) (Ev.opt (getI_lt hlt) (Ev.bind (ih _ (List.getElem_mem hlt)) ?_))
    have next := ihm (i + 1) (out ++ (pathsT kind ks[i]).map ((i : Int) :: ·)) (by omega) h1 (by simp; omega)
    rw [List.append_assoc] at next
    have hlen : ∀ p ∈ pathsT kind ks[i], p.length ≤ 1099511627776 := fun p hp => by have := pathsT_deep kind ks[i] p hp; omega
    generalize pathsT kind ks[i] = lst at *
    have inner : ∀ (m' j : Nat), lst.length = j + m' → Ev (fun K => ref04_Paths_l3 K kind a b nm mk ks (i : Int) lst (j : Int) (out ++ (lst.take j).map ((i : Int) :: ·))) (out ++ (lst.map ((i : Int) :: ·) ++ pathsL kind (ks.drop (i + 1)) (i + 1))) := by
      intro m'
      induction m' with
      | zero =>
        intro j hj
        refine Ev.step (fun k => by rw [ref04_Paths_l3]) ?_
        refine Ev.iteF (dec_f (by omega)) ?_
        rw [wrap_nat (by omega), List.take_of_length_le (by omega)]
        exact next
      | succ m' ihj =>
        intro j hj
        have hjl : j < lst.length := by omega
        have hjj := hlen _ (List.getElem_mem hjl)
        refine Ev.step (fun k => by rw [ref04_Paths_l3]) ?_
        refine Ev.iteT (dec_t (by omega)) (Ev.opt (getI_lt hjl) (Ev.opt (appL_ok (by simp; omega)) (Ev.opt (appL_ok (by simp; omega)) ?_)))
        rw [wrap_nat (by omega)]
        have := ihj (j + 1) (by omega)
        rw [take_get' hjl, List.map_append, List.map_cons, List.map_nil, ← List.append_assoc] at this
        exact this
    simpa using inner lst.length 0 (by omega)

theorem ev_rpaths_l4 {a b kind : Int} {nm mk : List UInt8} {ks : List Tr} (hl : ks.length ≤ 1099511627776)
    (ih : ∀ x ∈ ks, Ev (fun K => ref04_Paths K x kind) (pathsT kind x)) :
    ∀ (m i : Nat) (out : List (List Int)), ks.length = i + m → wL ks ≤ 1099511627776 → out.length + wL (ks.drop i) ≤ 1099511627776 →
      Ev (fun K => ref04_Paths_l4 K kind a b nm mk ks (i : Int) out) (out ++ pathsL kind (ks.drop i) i) := by
  intro m
  induction m with
  | zero =>
    intro i out hi h1 h2
    refine Ev.step (fun k => by rw [ref04_Paths_l4]) ?_
    refine Ev.iteF (dec_f (by omega)) (Ev.pure' ?_)
    rw [List.drop_of_length_le (by omega), pathsL_nil]; simp
  | succ m ihm =>
    intro i out hi h1 h2
    have hlt : i < ks.length := by omega
    rw [drop_get hlt, wL_cons] at h2
    rw [drop_get hlt, pathsL_cons]
    have hn := pathsT_len kind ks[i]
    have hw := wL_mem (List.getElem_mem hlt)
    refine Ev.step (fun k => by rw [ref04_Paths_l4]) ?_
    refine Ev.iteT (dec_t (by omega)) (Ev.opt (getI_lt hlt) (Ev.bind (ih _ (List.getElem_mem hlt)) ?_))
    have next := ihm (i + 1) (out ++ (pathsT kind ks[i]).map ((i : Int) :: ·)) (by omega) h1 (by simp; omega)
    rw [List.append_assoc] at next
    have hlen : ∀ p ∈ pathsT kind ks[i], p.length ≤ 1099511627776 := fun p hp => by have := pathsT_deep kind ks[i] p hp; omega
    generalize pathsT kind ks[i] = lst at *
    have inner : ∀ (m' j : Nat), lst.length = j + m' → Ev (fun K => ref04_Paths_l5 K kind a b nm mk ks (i : Int) lst (j : Int) (out ++ (lst.take j).map ((i : Int) :: ·))) (out ++ (lst.map ((i : Int) :: ·) ++ pathsL kind (ks.drop (i + 1)) (i + 1))) := by
      intro m'
      induction m' with
      | zero =>
        intro j hj
        refine Ev.step (fun k => by rw [ref04_Paths_l5]) ?_
        refine Ev.iteF (dec_f (by omega)) ?_
        rw [wrap_nat (by omega), List.take_of_length_le (by omega)]
        exact next
      | succ m' ihj =>
        intro j hj
        have hjl : j < lst.length := by omega
        have hjj := hlen _ (List.getElem_mem hjl)
        refine Ev.step (fun k => by rw [ref04_Paths_l5]) ?_
        refine Ev.iteT (dec_t (by omega)) (Ev.opt (getI_lt hjl) (Ev.opt (appL_ok (by simp; omega)) (Ev.opt (appL_ok (by simp; omega)) ?_)))
        rw [wrap_nat (by omega)]
        have := ihj (j + 1) (by omega)
        rw [take_get' hjl, List.map_append, List.map_cons, List.map_nil, ← List.append_assoc] at this
        exact this
    simpa using inner lst.length 0 (by omega)

theorem ev_rpaths {kind : Int} : ∀ t : Tr, t.w ≤ 1099511627776 → Ev (fun K => ref04_Paths K t kind) (pathsT kind t) := Tr.ind
  (fun _ => Ev.step (fun k => by rw [ref04_Paths]) (Ev.pure' (pathsT_nil kind).symm))
  fun k n nm mk ks ih h => by
    obtain ⟨h1, h2⟩ := kids_big h
    rw [w_node] at h
    have ih' : ∀ x ∈ ks, Ev (fun K => ref04_Paths K x kind) (pathsT kind x) := fun x hx => ih x hx (by have := wL_mem hx; omega)
    refine Ev.step (fun k => by rw [ref04_Paths]) ?_
    rw [pathsT_node]
    refine Ev.ite (fun h => ?_) (fun h => Ev.ite (fun h' => ?_) (fun h' => ?_))
    · simp only [decide_eq_true_eq] at h
      rw [if_pos (.inl h)]
      refine Ev.opt (appL_ok (by simp)) ?_
      have := ev_rpaths_l0 (a := k) (b := n) (nm := nm) (mk := mk) h2 ih' ks.length 0 [[]] (by omega) h1 (by simp; omega)
      simpa using this
    · simp only [decide_eq_true_eq] at h'
      rw [if_pos (.inr h')]
      refine Ev.opt (appL_ok (by simp)) ?_
      have := ev_rpaths_l2 (a := k) (b := n) (nm := nm) (mk := mk) h2 ih' ks.length 0 [[]] (by omega) h1 (by simp; omega)
      simpa using this
    · simp only [decide_eq_true_eq] at h h'
      rw [if_neg (by omega)]
      have := ev_rpaths_l4 (a := k) (b := n) (nm := nm) (mk := mk) h2 ih' ks.length 0 [] (by omega) h1 (by simp; omega)
      simpa using this

theorem ev_samepaths_loop {p q : List (List Int)} (hl : p.length ≤ 1099511627776) (hk : ∀ c ∈ p, c.length ≤ 1099511627776) (hpq : p.length = q.length) : ∀ (m i : Nat), p.length = i + m →
    Ev (fun K => ref04_SamePaths_l0 K p q (i : Int)) (eqB (p.drop i) (q.drop i)) := by
  intro m
  induction m with
  | zero =>
    intro i hi
    refine Ev.step (fun k => by rw [ref04_SamePaths_l0]) ?_
    refine Ev.iteF (dec_f (by omega)) (Ev.pure' ?_)
    rw [List.drop_of_length_le (by omega), List.drop_of_length_le (by omega)]
    exact (eqB_t rfl).symm
  | succ m ihm =>
    intro i hi
    have hlt : i < p.length := by omega
    have hlt' : i < q.length := by omega
    rw [drop_get hlt, drop_get hlt']
    refine Ev.step (fun k => by rw [ref04_SamePaths_l0]) ?_
    refine Ev.iteT (dec_t (by omega)) (Ev.opt (getI_lt hlt) (Ev.opt (getI_lt hlt') (Ev.bind (ev_path (hk _ (List.getElem_mem hlt))) ?_)))
    rw [wrap_nat (by omega)]
    by_cases e : p[i] = q[i]
    · rw [eqB_t e]
      refine Ev.iteF (by simp) ?_
      rw [eqB_congr (cons_iff e)]
      exact ihm (i + 1) (by omega)
    · rw [eqB_f e]
      exact Ev.iteT (by simp) (Ev.pure' (eqB_f (cons_ne e)).symm)

theorem ev_samepaths {p q : List (List Int)} (hl : p.length ≤ 1099511627776) (hk : ∀ c ∈ p, c.length ≤ 1099511627776) : Ev (fun K => ref04_SamePaths K p q) (eqB p q) := by
  unfold ref04_SamePaths
  refine Ev.ite (fun e => Ev.pure' (eqB_f fun h => by subst h; simp at e).symm) (fun e => ?_)
  have := ev_samepaths_loop (q := q) hl hk (by simp at e; omega) p.length 0 (by omega)
  simpa using this
end Go.Proofs.Ythkaeeadihplcaa
