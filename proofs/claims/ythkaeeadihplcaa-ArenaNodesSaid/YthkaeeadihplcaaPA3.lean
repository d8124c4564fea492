/- Plain facts of layer 4 (arena), part 3: the law's cells; copies; trees that are whole; packing. -/
import Derived.Test.YthkaeeadihplcaaPA2
namespace Go.Proofs.Ythkaeeadihplcaa
open Go Go.Am

def cutC (c : S_Cell) : S_Cell := ⟨c.fKind, c.fN, c.fName.take 20, c.fMark.take 20, c.fKids.take 12⟩
def fewL (p : List S_Cell) : List S_Cell := (p.take 60).map cutC
theorem fewL_len (p : List S_Cell) : (fewL p).length ≤ 60 := by simp [fewL]; omega
theorem fewL_kids {p : List S_Cell} {c : S_Cell} (h : c ∈ fewL p) : c.fKids.length ≤ 12 := by
  simp only [fewL, List.mem_map] at h
  obtain ⟨x, _, rfl⟩ := h
  simp [cutC]; omega

theorem min_int {n m : Nat} : (if (m : Int) < (n : Int) then (m : Int) else (n : Int)) = ((min n m : Nat) : Int) := by split <;> omega
theorem take_min {α : Type} {l : List α} {m : Nat} : (l.take (min l.length m)).drop 0 = l.take m := by
  rw [List.drop_zero]
  rcases Nat.le_total l.length m with h | h
  · rw [Nat.min_eq_left h, List.take_length, List.take_of_length_le h]
  · rw [Nat.min_eq_right h]

theorem sub_min {α : Type} {l : List α} {m : Nat} : subL l 0 (if (m : Int) < (((l.length : Nat) : Int)) then (m : Int) else (((l.length : Nat) : Int))) = some (l.take m) := by
  rw [min_int, show (0 : Int) = ((0 : Nat) : Int) from rfl, subL_ok (by omega) (by omega), take_min]

theorem ev_few_loop {p : List S_Cell} : ∀ (m i : Nat) (acc : List S_Cell), i + m = min p.length 60 → acc.length = i → Ev (fun K => law04_few_l0 K p (i : Int) acc) (acc ++ ((p.take 60).drop i).map cutC) := by
  intro m
  induction m with
  | zero =>
    intro i acc hi ha
    refine Ev.step (fun k => by rw [law04_few_l0]) ?_
    have hd : (p.take 60).drop i = [] := List.drop_of_length_le (by simp; omega)
    rw [hd]
    refine Ev.ite (fun h => ?_) (fun _ => Ev.pure' (by simp))
    simp only [decide_eq_true_eq] at h
    exact Ev.iteF (dec_f (by omega)) (Ev.pure' (by simp))
  | succ m ihm =>
    intro i acc hi ha
    have hlt : i < p.length := by omega
    have hlt' : i < (p.take 60).length := by simp; omega
    refine Ev.step (fun k => by rw [law04_few_l0]) ?_
    refine Ev.iteT (dec_t (by omega)) (Ev.iteT (dec_t (by omega)) (Ev.opt (getI_lt hlt) ?_))
    refine Ev.opt (sub_min (m := 20)) (Ev.opt (sub_min (m := 20)) (Ev.opt (sub_min (m := 12)) ?_))
    refine Ev.opt (appL_ok (by simp; omega)) (Ev.opt (appL_ok (by simp; omega)) ?_)
    rw [wrap_nat (by omega), drop_get hlt', List.map_cons]
    have := ihm (i + 1) (acc ++ [cutC p[i]]) (by omega) (by simp [ha])
    rw [List.append_assoc] at this
    simpa [cutC] using this

theorem ev_few (p : List S_Cell) : Ev (fun K => law04_few K p) (fewL p) := by
  have := ev_few_loop (p := p) (min p.length 60) 0 [] (by omega) rfl
  simpa [law04_few, fewL] using this

theorem ev_copy_loop {a b : Int} {nm mk : List UInt8} {ks : List Tr} (hl : ks.length ≤ 1099511627776) (ih : ∀ x ∈ ks, Ev (fun K => arena_Copy K x) x) : ∀ (m i : Nat), ks.length = i + m →
    Ev (fun K => arena_Copy_l0 K a b nm mk ks (i : Int) (ks.take i)) (.node a b nm mk ks) := by
  intro m
  induction m with
  | zero =>
    intro i hi
    refine Ev.step (fun k => by rw [arena_Copy_l0]) ?_
    exact Ev.iteF (dec_f (by omega)) (Ev.pure' (by rw [List.take_of_length_le (by omega)]))
  | succ m ihm =>
    intro i hi
    have hlt : i < ks.length := by omega
    refine Ev.step (fun k => by rw [arena_Copy_l0]) ?_
    refine Ev.iteT (dec_t (by omega)) (Ev.opt (getI_lt hlt) (Ev.bind (ih _ (List.getElem_mem hlt)) (Ev.opt (appL_ok (by simp; omega)) ?_)))
    rw [wrap_nat (by omega), ← take_get' hlt]
    exact ihm (i + 1) (by omega)

theorem ev_copy : ∀ t : Tr, t.w ≤ 1099511627776 → Ev (fun K => arena_Copy K t) t := Tr.ind
  (fun _ => Ev.step (fun k => by rw [arena_Copy]) Ev.pure)
  fun k n nm mk ks ih h => by
    obtain ⟨h1, h2⟩ := kids_big h
    refine Ev.step (fun k => by rw [arena_Copy]) ?_
    exact ev_copy_loop h2 (fun x hx => ih x hx (by have := wL_mem hx; omega)) ks.length 0 (by omega)

theorem ev_copyo_loop {a b : Int} {nm mk : List UInt8} {ks : List Tr} (hl : ks.length ≤ 1099511627776) (ih : ∀ x ∈ ks, Ev (fun K => arena_Copy K x) x) : ∀ (m i : Nat), ks.length = i + m →
    Ev (fun K => arena_Copy_opt_l0 K a b nm mk ks (i : Int) (ks.take i)) (some (a, b, nm, mk, ks)) := by
  intro m
  induction m with
  | zero =>
    intro i hi
    refine Ev.step (fun k => by rw [arena_Copy_opt_l0]) ?_
    exact Ev.iteF (dec_f (by omega)) (Ev.pure' (by rw [List.take_of_length_le (by omega)]))
  | succ m ihm =>
    intro i hi
    have hlt : i < ks.length := by omega
    refine Ev.step (fun k => by rw [arena_Copy_opt_l0]) ?_
    refine Ev.iteT (dec_t (by omega)) (Ev.opt (getI_lt hlt) (Ev.bind (ih _ (List.getElem_mem hlt)) (Ev.opt (appL_ok (by simp; omega)) ?_)))
    rw [wrap_nat (by omega), ← take_get' hlt]
    exact ihm (i + 1) (by omega)

theorem ev_copyo_nil : Ev (fun K => arena_Copy_opt K .nil) none := Ev.pure
theorem ev_copyo {a b : Int} {nm mk : List UInt8} {ks : List Tr} (h : (Tr.node a b nm mk ks).w ≤ 1099511627776) : Ev (fun K => arena_Copy_opt K (.node a b nm mk ks)) (some (a, b, nm, mk, ks)) := by
  obtain ⟨h1, h2⟩ := kids_big h
  exact ev_copyo_loop h2 (fun x hx => ev_copy x (by have := wL_mem hx; omega)) ks.length 0 (by omega)

/-- Is there no nil in a tree? -/
def fullT : Tr → Bool
  | .nil => false
  | .node _ _ _ _ ks => go ks
where go : List Tr → Bool
  | [] => true
  | k :: ks => fullT k && go ks
abbrev fullL (l : List Tr) : Bool := fullT.go l
theorem fullL_nil : fullL [] = true := by simp [fullT.go]
theorem fullL_cons (k : Tr) (ks : List Tr) : fullL (k :: ks) = (fullT k && fullL ks) := by simp [fullT.go]
theorem fullT_nil : fullT .nil = false := by simp [fullT]
theorem fullT_node {k n nm mk ks} : fullT (Tr.node k n nm mk ks) = fullL ks := by simp [fullT]
theorem fullL_mem : ∀ {l : List Tr}, fullL l = true ↔ ∀ x ∈ l, fullT x = true
  | [] => by simp [fullL_nil]
  | k :: l => by rw [fullL_cons, Bool.and_eq_true, fullL_mem]; simp

theorem ev_index_loop {p : List Tr} (hl : p.length ≤ 1099511627776) (ih : ∀ x ∈ p, Ev (fun K => arena_whole K x) (fullT x)) : ∀ (m i : Nat), p.length = i + m →
    ∃ r : Int, Ev (fun K => slices_IndexFunc_l0 K p (i : Int)) r ∧ decide (0 ≤ r) = !fullL (p.drop i) := by
  intro m
  induction m with
  | zero =>
    intro i hi
    refine ⟨-1, ?_, ?_⟩
    · refine Ev.step (fun k => by rw [slices_IndexFunc_l0]) ?_
      exact Ev.iteF (dec_f (by omega)) Ev.pure
    · rw [List.drop_of_length_le (by omega), fullL_nil]; rfl
  | succ m ihm =>
    intro i hi
    have hlt : i < p.length := by omega
    have hw : Ev (fun K => arena_whole_1 K p[i]) (!fullT p[i]) := Ev.step (fun k => by rw [arena_whole_1]) (Ev.bind (ih _ (List.getElem_mem hlt)) Ev.pure)
    rw [drop_get hlt, fullL_cons]
    cases hf : fullT p[i] with
    | false =>
      refine ⟨i, ?_, by simp⟩
      refine Ev.step (fun k => by rw [slices_IndexFunc_l0]) ?_
      refine Ev.iteT (dec_t (by omega)) (Ev.opt (getI_lt hlt) (Ev.bind hw ?_))
      rw [hf]
      exact Ev.iteT rfl Ev.pure
    | true =>
      obtain ⟨r, h1, h2⟩ := ihm (i + 1) (by omega)
      refine ⟨r, ?_, by simpa using h2⟩
      refine Ev.step (fun k => by rw [slices_IndexFunc_l0]) ?_
      refine Ev.iteT (dec_t (by omega)) (Ev.opt (getI_lt hlt) (Ev.bind hw ?_))
      rw [hf, wrap_nat (by omega)]
      exact Ev.iteF (by simp) h1

theorem ev_whole : ∀ t : Tr, t.w ≤ 1099511627776 → Ev (fun K => arena_whole K t) (fullT t) := Tr.ind
  (fun _ => Ev.step (fun k => by rw [arena_whole]) (Ev.pure' fullT_nil.symm))
  fun k n nm mk ks ih h => by
    obtain ⟨h1, h2⟩ := kids_big h
    refine Ev.step (fun k => by rw [arena_whole]) ?_
    obtain ⟨r, g1, g2⟩ := ev_index_loop h2 (fun x hx => ih x hx (by have := wL_mem hx; omega)) ks.length 0 (by omega)
    refine Ev.bind (a := !fullL ks) ?_ (Ev.pure' (by rw [fullT_node, Bool.not_not]))
    refine Ev.step (fun k => by rw [slices_ContainsFunc]) (Ev.bind (a := r) (Ev.step (fun k => by rw [slices_IndexFunc]; rfl) g1) (Ev.pure' (by simpa using g2)))

theorem ev_hole_loop {a b : Int} {nm mk : List UInt8} {p : List Tr} (hl : p.length ≤ 1099511627776) (ih : ∀ x ∈ p, Ev (fun K => ref04_hole K x) (!fullT x)) : ∀ (m i : Nat), p.length = i + m →
    Ev (fun K => ref04_hole_l0 K a b nm mk p (i : Int)) (!fullL (p.drop i)) := by
  intro m
  induction m with
  | zero =>
    intro i hi
    refine Ev.step (fun k => by rw [ref04_hole_l0]) ?_
    exact Ev.iteF (dec_f (by omega)) (Ev.pure' (by rw [List.drop_of_length_le (by omega), fullL_nil]; rfl))
  | succ m ihm =>
    intro i hi
    have hlt : i < p.length := by omega
    rw [drop_get hlt, fullL_cons]
    refine Ev.step (fun k => by rw [ref04_hole_l0]) ?_
    refine Ev.iteT (dec_t (by omega)) (Ev.opt (getI_lt hlt) (Ev.bind (ih _ (List.getElem_mem hlt)) ?_))
    cases hf : fullT p[i] with
    | false => exact Ev.iteT rfl (Ev.pure' (by simp))
    | true =>
      rw [wrap_nat (by omega)]
      refine Ev.iteF (by simp) ?_
      simpa using ihm (i + 1) (by omega)

theorem ev_hole : ∀ t : Tr, t.w ≤ 1099511627776 → Ev (fun K => ref04_hole K t) (!fullT t) := Tr.ind
  (fun _ => Ev.step (fun k => by rw [ref04_hole]) (Ev.pure' (by rw [fullT_nil]; rfl)))
  fun k n nm mk ks ih h => by
    obtain ⟨h1, h2⟩ := kids_big h
    refine Ev.step (fun k => by rw [ref04_hole]) ?_
    have := ev_hole_loop (a := k) (b := n) (nm := nm) (mk := mk) h2 (fun x hx => ih x hx (by have := wL_mem hx; omega)) ks.length 0 (by omega)
    rw [fullT_node]
    simpa using this

/-- The cells of a tree whose first one stands at f. -/
def cellsT : Tr → Nat → List S_Cell
  | .nil, _ => []
  | .node k n nm mk ks, f => (go ks f [] []).2 ++ [⟨k, n, nm, mk, (go ks f [] []).1⟩]
where go : List Tr → Nat → List Int → List S_Cell → List Int × List S_Cell
  | [], _, kids, out => (kids, out)
  | t :: ts, f, kids, out => go ts f (kids ++ [((f + (out ++ cellsT t (f + out.length)).length : Nat) : Int) - 1]) (out ++ cellsT t (f + out.length))
abbrev cellsL (l : List Tr) (f : Nat) (kids : List Int) (out : List S_Cell) : List Int × List S_Cell := cellsT.go l f kids out
theorem cellsL_nil (f : Nat) (kids : List Int) (out : List S_Cell) : cellsL [] f kids out = (kids, out) := by simp [cellsT.go]
theorem cellsL_cons (t : Tr) (ts : List Tr) (f : Nat) (kids : List Int) (out : List S_Cell) :
    cellsL (t :: ts) f kids out = cellsL ts f (kids ++ [((f + (out ++ cellsT t (f + out.length)).length : Nat) : Int) - 1]) (out ++ cellsT t (f + out.length)) := by simp [cellsT.go]
theorem cellsT_nil (f : Nat) : cellsT .nil f = [] := by simp [cellsT]
theorem cellsT_node {k n nm mk ks} (f : Nat) : cellsT (Tr.node k n nm mk ks) f = (cellsL ks f [] []).2 ++ [⟨k, n, nm, mk, (cellsL ks f [] []).1⟩] := by simp [cellsT]
theorem cellsL_len : ∀ {l : List Tr} (f : Nat) (kids : List Int) (out : List S_Cell), (∀ x ∈ l, ∀ f, (cellsT x f).length = sizeT x) → (cellsL l f kids out).2.length = out.length + sizeL l
  | [], f, kids, out, _ => by simp [cellsL_nil, sizeL_nil]
  | t :: l, f, kids, out, h => by
    rw [cellsL_cons, sizeL_cons, cellsL_len (l := l) _ _ _ fun x hx => h x (List.mem_cons_of_mem _ hx), List.length_append, h t List.mem_cons_self]
    omega
theorem cellsT_len : ∀ (t : Tr) (f : Nat), (cellsT t f).length = sizeT t := Tr.ind (by simp [cellsT_nil, sizeT_nil]) fun k n nm mk ks ih f => by
  rw [cellsT_node, sizeT_node, List.length_append, cellsL_len _ _ _ ih]; simp; omega

theorem ev_cells_loop {a b : Int} {nm mk : List UInt8} {ks : List Tr} {f : Nat} (hl : ks.length ≤ 1099511627776)
    (ih : ∀ x ∈ ks, ∀ f' : Nat, f' + x.w ≤ 1099511627776 → Ev (fun K => ref04_cells K x (f' : Int)) (cellsT x f')) : ∀ (m i : Nat) (kids : List Int) (out : List S_Cell), ks.length = i + m → kids.length = i → f + out.length + wL (ks.drop i) ≤ 1099511627776 →
    Ev (fun K => ref04_cells_l0 K (f : Int) a b nm mk ks (i : Int) kids out) ((cellsL (ks.drop i) f kids out).2 ++ [⟨a, b, nm, mk, (cellsL (ks.drop i) f kids out).1⟩]) := by
  intro m
  induction m with
  | zero =>
    intro i kids out hi hk ho
    refine Ev.step (fun k => by rw [ref04_cells_l0]) ?_
    have hd : ks.drop i = [] := List.drop_of_length_le (by omega)
    rw [hd] at ho ⊢
    rw [cellsL_nil]
    exact Ev.iteF (dec_f (by omega)) (Ev.opt (appL_ok (by simp; omega)) Ev.pure)
  | succ m ihm =>
    intro i kids out hi hk ho
    have hlt : i < ks.length := by omega
    rw [drop_get hlt, wL_cons] at ho
    rw [drop_get hlt, cellsL_cons]
    have hc := cellsT_len ks[i] (f + out.length)
    have hs := sizeT_le ks[i]
    have hw := w_pos ks[i]
    refine Ev.step (fun k => by rw [ref04_cells_l0]) ?_
    refine Ev.iteT (dec_t (by omega)) (Ev.opt (getI_lt hlt) ?_)
    rw [wrap_id (by omega) (by omega), ← Int.natCast_add]
    refine Ev.bind (ih _ (List.getElem_mem hlt) (f + out.length) (by omega)) (Ev.opt (appL_ok (by omega)) ?_)
    have hlen : (out ++ cellsT ks[i] (f + out.length)).length = out.length + sizeT ks[i] := by rw [List.length_append, hc]
    rw [wrap_id (x := (f : Int) + _) (by omega) (by omega), ← Int.natCast_add, wrap_id (by omega) (by omega)]
    refine Ev.opt (appL_ok (by simp; omega)) ?_
    rw [wrap_nat (by omega)]
    exact ihm (i + 1) _ _ (by omega) (by simp [hk]) (by omega)

theorem ev_cells : ∀ t : Tr, fullT t = true → ∀ f : Nat, f + t.w ≤ 1099511627776 → Ev (fun K => ref04_cells K t (f : Int)) (cellsT t f) := Tr.ind
  (fun h => by rw [fullT_nil] at h; cases h)
  fun k n nm mk ks ih h f hf => by
    rw [fullT_node] at h
    rw [w_node] at hf
    have hl := wL_len ks
    refine Ev.step (fun k => by rw [ref04_cells]) ?_
    have := ev_cells_loop (a := k) (b := n) (nm := nm) (mk := mk) (f := f) (by omega) (fun x hx f' hf' => ih x hx (fullL_mem.1 h x hx) f' hf') ks.length 0 [] [] (by omega) rfl (by simp; omega)
    rw [cellsT_node]
    simpa using this

theorem ev_add_loop {a b : Int} {nm mk : List UInt8} {ks : List Tr} {acc : List S_Cell} (hl : ks.length ≤ 1099511627776)
    (ih : ∀ x ∈ ks, ∀ acc : List S_Cell, acc.length + x.w ≤ 1099511627776 → Ev (fun K => arena_Pack_1 K x acc) ((((acc ++ cellsT x acc.length).length : Nat) : Int) - 1, acc ++ cellsT x acc.length)) : ∀ (m i : Nat) (kids : List Int) (out : List S_Cell), ks.length = i + m → kids.length = i → acc.length + out.length + wL (ks.drop i) ≤ 1099511627776 →
    Ev (fun K => arena_Pack_1_l0 K a b nm mk ks (i : Int) kids (acc ++ out)) ((((acc ++ ((cellsL (ks.drop i) acc.length kids out).2 ++ [(⟨a, b, nm, mk, (cellsL (ks.drop i) acc.length kids out).1⟩ : S_Cell)])).length : Nat) : Int) - 1, acc ++ ((cellsL (ks.drop i) acc.length kids out).2 ++ [⟨a, b, nm, mk, (cellsL (ks.drop i) acc.length kids out).1⟩])) := by
  intro m
  induction m with
  | zero =>
    intro i kids out hi hk ho
    refine Ev.step (fun k => by rw [arena_Pack_1_l0]) ?_
    have hd : ks.drop i = [] := List.drop_of_length_le (by omega)
    rw [hd] at ho ⊢
    rw [cellsL_nil]
    refine Ev.iteF (dec_f (by omega)) (Ev.opt (appL_ok (by simp; omega)) (Ev.pure' ?_))
    rw [wrap_id (by simp; omega) (by simp; omega), List.append_assoc]
  | succ m ihm =>
    intro i kids out hi hk ho
    have hlt : i < ks.length := by omega
    rw [drop_get hlt, wL_cons] at ho
    rw [drop_get hlt, cellsL_cons]
    have hc := cellsT_len ks[i] (acc.length + out.length)
    have hs := sizeT_le ks[i]
    have hw := w_pos ks[i]
    refine Ev.step (fun k => by rw [arena_Pack_1_l0]) ?_
    refine Ev.iteT (dec_t (by omega)) (Ev.opt (getI_lt hlt) ?_)
    refine Ev.bind (ih _ (List.getElem_mem hlt) (acc ++ out) (by simp; omega)) ?_
    have hlen : (out ++ cellsT ks[i] (acc.length + out.length)).length = out.length + sizeT ks[i] := by rw [List.length_append, hc]
    refine Ev.opt (appL_ok (by simp; omega)) ?_
    rw [wrap_nat (by omega)]
    have := ihm (i + 1) (kids ++ [((acc.length + (out ++ cellsT ks[i] (acc.length + out.length)).length : Nat) : Int) - 1]) (out ++ cellsT ks[i] (acc.length + out.length)) (by omega) (by simp [hk]) (by omega)
    simpa [Nat.add_assoc] using this

theorem ev_add : ∀ t : Tr, fullT t = true → ∀ acc : List S_Cell, acc.length + t.w ≤ 1099511627776 → Ev (fun K => arena_Pack_1 K t acc) ((((acc ++ cellsT t acc.length).length : Nat) : Int) - 1, acc ++ cellsT t acc.length) := Tr.ind
  (fun h => by rw [fullT_nil] at h; cases h)
  fun k n nm mk ks ih h acc hf => by
    rw [fullT_node] at h
    rw [w_node] at hf
    have hl := wL_len ks
    refine Ev.step (fun k => by rw [arena_Pack_1]) ?_
    have := ev_add_loop (a := k) (b := n) (nm := nm) (mk := mk) (acc := acc) (by omega) (fun x hx f' hf' => ih x hx (fullL_mem.1 h x hx) f' hf') ks.length 0 [] [] (by omega) rfl (by simp; omega)
    rw [cellsT_node]
    simpa using this

/-- What a tree is packed to. -/
def packT (t : Tr) : List S_Cell × Int := if fullT t = true then (if 8192 < sizeT t then ([], 3) else (cellsT t 0, 0)) else ([], 1)

theorem ev_pack (t : Tr) (h : t.w ≤ 1099511627776) : Ev (fun K => arena_Pack K t) (packT t) := by
  unfold arena_Pack packT
  refine Ev.bind (ev_whole t h) ?_
  by_cases hf : fullT t = true
  · rw [if_pos hf]
    refine Ev.iteF (by simp [hf]) (Ev.bind (ev_size t h) ?_)
    by_cases hz : 8192 < sizeT t
    · rw [if_pos hz]; exact Ev.iteT (dec_t (by omega)) Ev.pure
    · rw [if_neg hz]
      refine Ev.iteF (dec_f (by omega)) (Ev.bind (ev_add t hf [] (by simpa using h)) (Ev.pure' ?_))
      simp
  · rw [if_neg hf]
    exact Ev.iteT (by simp [hf]) Ev.pure

theorem ev_rpack (t : Tr) (h : t.w ≤ 1099511627776) : Ev (fun K => ref04_Pack K t) (packT t) := by
  unfold ref04_Pack packT
  refine Ev.bind (ev_hole t h) ?_
  by_cases hf : fullT t = true
  · rw [if_pos hf]
    refine Ev.iteF (by simp [hf]) (Ev.bind (ev_rsize t h) ?_)
    by_cases hz : 8192 < sizeT t
    · rw [if_pos hz]; exact Ev.iteT (dec_t (by omega)) Ev.pure
    · rw [if_neg hz]
      refine Ev.iteF (dec_f (by omega)) (Ev.bind (ev_cells t hf 0 (by simpa using h)) (Ev.pure' rfl))
  · rw [if_neg hf]
    exact Ev.iteT (by simp [hf]) Ev.pure

theorem ev_path_loop {p q : List Int} (hl : p.length ≤ 1099511627776) (hpq : p.length = q.length) : ∀ (m i : Nat), p.length = i + m →
    Ev (fun K => ref04_SamePath_l0 K p q (i : Int)) (eqB (p.drop i) (q.drop i)) := by
  intro m
  induction m with
  | zero =>
    intro i hi
    refine Ev.step (fun k => by rw [ref04_SamePath_l0]) ?_
    refine Ev.iteF (dec_f (by omega)) (Ev.pure' ?_)
    rw [List.drop_of_length_le (by omega), List.drop_of_length_le (by omega)]
    exact (eqB_t rfl).symm
  | succ m ihm =>
    intro i hi
    have hlt : i < p.length := by omega
    have hlt' : i < q.length := by omega
    rw [drop_get hlt, drop_get hlt']
    refine Ev.step (fun k => by rw [ref04_SamePath_l0]) ?_
    refine Ev.iteT (dec_t (by omega)) (Ev.opt (getI_lt hlt) (Ev.opt (getI_lt hlt') ?_))
    rw [wrap_nat (by omega)]
    by_cases e : p[i] = q[i]
    · refine Ev.iteF (ndec_f e) ?_
      rw [eqB_congr (cons_iff e)]
      exact ihm (i + 1) (by omega)
    · exact Ev.iteT (ndec_t e) (Ev.pure' (eqB_f (cons_ne e)).symm)

theorem ev_path {p q : List Int} (hl : p.length ≤ 1099511627776) : Ev (fun K => ref04_SamePath K p q) (eqB p q) := by
  unfold ref04_SamePath
  refine Ev.ite (fun e => Ev.pure' (eqB_f fun h => by subst h; simp at e).symm) (fun e => ?_)
  have := ev_path_loop (q := q) hl (by simp at e; omega) p.length 0 (by omega)
  simpa using this

theorem ev_samecells_loop {p q : List S_Cell} (hl : p.length ≤ 1099511627776) (hk : ∀ c ∈ p, c.fKids.length ≤ 1099511627776) (hpq : p.length = q.length) : ∀ (m i : Nat), p.length = i + m →
    Ev (fun K => ref04_SameCells_l0 K p q (i : Int)) (eqB (p.drop i) (q.drop i)) := by
  intro m
  induction m with
  | zero =>
    intro i hi
    refine Ev.step (fun k => by rw [ref04_SameCells_l0]) ?_
    refine Ev.iteF (dec_f (by omega)) (Ev.pure' ?_)
    rw [List.drop_of_length_le (by omega), List.drop_of_length_le (by omega)]
    exact (eqB_t rfl).symm
  | succ m ihm =>
    intro i hi
    have hlt : i < p.length := by omega
    have hlt' : i < q.length := by omega
    rw [drop_get hlt, drop_get hlt']
    have hkk := hk _ (List.getElem_mem hlt)
    have ihm' := ihm (i + 1) (by omega)
    refine Ev.step (fun k => by rw [ref04_SameCells_l0]) ?_
    refine Ev.iteT (dec_t (by omega)) (Ev.opt (getI_lt hlt) (Ev.opt (getI_lt hlt') ?_))
    rw [wrap_nat (by omega)]
    generalize p[i] = x at *
    generalize q[i] = y at *
    obtain ⟨a1, a2, a3, a4, a5⟩ := x
    obtain ⟨b1, b2, b3, b4, b5⟩ := y
    simp only at hkk ⊢
    refine Ev.ite (fun e1 => Ev.pure' (eqB_f (cons_ne (by simp_all))).symm) (fun e1 => ?_)
    refine Ev.ite (fun e2 => Ev.pure' (eqB_f (cons_ne (by simp_all))).symm) (fun e2 => ?_)
    refine Ev.ite (fun e3 => Ev.pure' (eqB_f (cons_ne (by simp_all))).symm) (fun e3 => ?_)
    refine Ev.ite (fun e4 => Ev.pure' (eqB_f (cons_ne (by simp_all))).symm) (fun e4 => ?_)
    refine Ev.bind (ev_path hkk) ?_
    by_cases e5 : a5 = b5
    · rw [eqB_t e5]
      refine Ev.iteF (by simp) ?_
      rw [eqB_congr (cons_iff (by simp_all))]
      exact ihm'
    · rw [eqB_f e5]
      exact Ev.iteT (by simp) (Ev.pure' (eqB_f (cons_ne (by simp_all))).symm)

theorem ev_samecells {p q : List S_Cell} (hl : p.length ≤ 1099511627776) (hk : ∀ c ∈ p, c.fKids.length ≤ 1099511627776) : Ev (fun K => ref04_SameCells K p q) (eqB p q) := by
  unfold ref04_SameCells
  refine Ev.ite (fun e => Ev.pure' (eqB_f fun h => by subst h; simp at e).symm) (fun e => ?_)
  have := ev_samecells_loop (q := q) hl hk (by simp at e; omega) p.length 0 (by omega)
  simpa using this

theorem ev_works : Ev (fun K => law04_works K) true := by
  have hw : (Tr.node 6 0 [] [] [.node 1 0 [] [] [], .node 2 0 [] [] []]).w ≤ 1099511627776 := by decide
  unfold law04_works
  refine Ev.bind (a := ([⟨1, 0, [], [], []⟩, ⟨2, 0, [], [], []⟩, ⟨6, 0, [], [], [0, 1]⟩], 0)) (by have := ev_pack _ hw; simpa [packT, fullT, fullT.go, sizeT, sizeT.go, cellsT, cellsT.go] using this) ?_
  refine Ev.iteT rfl (Ev.iteT rfl (Ev.opt rfl (Ev.iteT rfl (Ev.opt rfl ?_))))
  refine Ev.bind (a := true) (by have := ev_path (p := [0, 1]) (q := [0, 1]) (by decide); rwa [eqB_t rfl] at this) (Ev.iteT rfl ?_)
  refine Ev.bind (a := 3) (by have := ev_size _ hw; simpa [sizeT, sizeT.go] using this) (Ev.iteT rfl ?_)
  exact Ev.bind (a := true) (by have := ev_same _ hw (Tr.node 6 0 [] [] [.node 1 0 [] [] [], .node 2 0 [] [] []]); rwa [eqB_t rfl] at this) Ev.pure
end Go.Proofs.Ythkaeeadihplcaa
