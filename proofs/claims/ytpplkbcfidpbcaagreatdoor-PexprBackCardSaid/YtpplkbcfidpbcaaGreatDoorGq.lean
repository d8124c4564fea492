/- Joined texts: A1, A2, A3, A4, A9. -/
import Derived.Test.YtpplkbcfidpbcaaGreatDoorGp
import Derived.Test.YtpplkbcfidpbcaaGreatDoorGf
/- Plain facts of trees, part 1: size, depth. -/
namespace Go.Proofs.YtpplkbcfidpbcaaGreatDoor
open Go Go.Am Go.Sx
def kindOf : Tr → Int
  | .nil => 0
  | .node k _ _ _ _ => k
def sizeT : Tr → Nat
  | .nil => 0
  | .node _ _ _ _ ks => 1 + go ks
where go : List Tr → Nat
  | [] => 0
  | k :: ks => sizeT k + go ks
abbrev sizeL (l : List Tr) : Nat := sizeT.go l
theorem sizeL_nil : sizeL [] = 0 := by simp [sizeT.go]
theorem sizeL_cons (k : Tr) (ks : List Tr) : sizeL (k :: ks) = sizeT k + sizeL ks := by simp [sizeT.go]
theorem sizeT_nil : sizeT .nil = 0 := by simp [sizeT]
theorem sizeT_node {k n nm mk ks} : sizeT (Tr.node k n nm mk ks) = 1 + sizeL ks := by simp [sizeT]
theorem sizeL_le : ∀ {l : List Tr}, (∀ x ∈ l, sizeT x ≤ x.w) → sizeL l ≤ wL l
  | [], _ => by simp [sizeL_nil, wL_nil]
  | k :: l, h => by
    rw [sizeL_cons, wL_cons]
    have := h k List.mem_cons_self
    have := sizeL_le (l := l) fun x hx => h x (List.mem_cons_of_mem _ hx)
    omega
theorem sizeL_mem : ∀ {l : List Tr} {x : Tr}, x ∈ l → sizeT x ≤ sizeL l
  | k :: l, x, hx => by
    rw [sizeL_cons]
    rcases List.mem_cons.1 hx with rfl | hx
    · omega
    · have := sizeL_mem hx; omega
theorem sizeT_le : ∀ t : Tr, sizeT t ≤ t.w := Tr.ind (by simp [sizeT_nil]) fun k n nm mk ks ih => by
  rw [sizeT_node, w_node]; have := sizeL_le ih; omega
def deepT : Tr → Nat
  | .nil => 0
  | .node _ _ _ _ ks => go ks 0 + 1
where go : List Tr → Nat → Nat
  | [], d => d
  | k :: ks, d => go ks (max d (deepT k))
abbrev deepL (l : List Tr) (d : Nat) : Nat := deepT.go l d
theorem deepL_nil (d : Nat) : deepL [] d = d := by simp [deepT.go]
theorem deepL_cons (k : Tr) (ks : List Tr) (d : Nat) : deepL (k :: ks) d = deepL ks (max d (deepT k)) := by simp [deepT.go]
theorem deepT_nil : deepT .nil = 0 := by simp [deepT]
theorem deepT_node {k n nm mk ks} : deepT (Tr.node k n nm mk ks) = deepL ks 0 + 1 := by simp [deepT]
theorem deepL_le : ∀ {l : List Tr} (d : Nat), (∀ x ∈ l, deepT x ≤ x.w) → deepL l d ≤ d + wL l
  | [], d, _ => by simp [deepL_nil, wL_nil]
  | k :: l, d, h => by
    rw [deepL_cons, wL_cons]
    have := h k List.mem_cons_self
    have := deepL_le (l := l) (max d (deepT k)) fun x hx => h x (List.mem_cons_of_mem _ hx)
    omega
theorem deepL_ge : ∀ {l : List Tr} {d : Nat}, d ≤ deepL l d
  | [], d => by rw [deepL_nil]; omega
  | y :: l, d => by rw [deepL_cons]; have := deepL_ge (l := l) (d := max d (deepT y)); omega
theorem deepL_mem : ∀ {l : List Tr} {x : Tr} {d : Nat}, x ∈ l → deepT x ≤ deepL l d
  | y :: l, x, d, h => by
    rw [deepL_cons]
    rcases List.mem_cons.1 h with rfl | hx
    · have := deepL_ge (l := l) (d := max d (deepT x)); omega
    · exact deepL_mem hx
theorem deepT_le : ∀ t : Tr, deepT t ≤ t.w := Tr.ind (by simp [deepT_nil]) fun k n nm mk ks ih => by
  rw [deepT_node, w_node]; have := deepL_le 0 ih; omega
theorem kids_big {k n nm mk ks} (h : (Tr.node k n nm mk ks).w ≤ 1099511627776) : wL ks ≤ 1099511627776 ∧ ks.length ≤ 1099511627776 := by
  rw [w_node] at h
  have := wL_len ks
  omega
theorem ev_size_loop {ks : List Tr} (hl : ks.length ≤ 1099511627776) (ih : ∀ x ∈ ks, Ev (fun K => arena_Size K x) (sizeT x : Int)) : ∀ (m i s : Nat), ks.length = i + m → s + sizeL (ks.drop i) ≤ 2 * 1099511627776 →
    Ev (fun K => arena_Size_l0 K (s : Int) ks (i : Int)) ((s + sizeL (ks.drop i) : Nat) : Int) := by
  intro m
  induction m with
  | zero =>
    intro i s hi hs
    refine Ev.step (fun k => by rw [arena_Size_l0]) ?_
    refine Ev.dF (by omega) (Ev.pure' ?_)
    rw [List.drop_of_length_le (by omega), sizeL_nil]; rfl
  | succ m ihm =>
    intro i s hi hs
    have hlt : i < ks.length := by omega
    rw [drop_get hlt, sizeL_cons] at hs ⊢
    refine Ev.step (fun k => by rw [arena_Size_l0]) ?_
    refine Ev.dT (by omega) (Ev.opt (getI_lt hlt) (Ev.bind (ih _ (List.getElem_mem hlt)) ?_))
    rw [wrap_nat (by omega), wrap_id (by omega) (by omega)]
    have := ihm (i + 1) (s + sizeT ks[i]) (by omega) (by omega)
    rw [Int.natCast_add] at this
    rw [show s + (sizeT ks[i] + sizeL (ks.drop (i + 1))) = s + sizeT ks[i] + sizeL (ks.drop (i + 1)) by omega]
    exact this
theorem ev_size : ∀ t : Tr, t.w ≤ 1099511627776 → Ev (fun K => arena_Size K t) (sizeT t : Int) := Tr.ind
  (fun _ => Ev.step (fun k => by rw [arena_Size]) (Ev.pure' (by simp [sizeT_nil])))
  fun k n nm mk ks ih h => by
    obtain ⟨h1, h2⟩ := kids_big h
    refine Ev.step (fun k => by rw [arena_Size]) ?_
    have := ev_size_loop h2 (fun x hx => ih x hx (by have := wL_mem hx; omega)) ks.length 0 1 (by omega) (by
      have := sizeL_le (l := ks) fun x _ => sizeT_le x
      simp only [List.drop_zero]; omega)
    rw [sizeT_node]
    simpa using this
theorem ev_deep_loop {ks : List Tr} (hl : ks.length ≤ 1099511627776) (ih : ∀ x ∈ ks, Ev (fun K => arena_Deep K x) (deepT x : Int)) : ∀ (m i d : Nat), ks.length = i + m → d + wL (ks.drop i) ≤ 2 * 1099511627776 →
    Ev (fun K => arena_Deep_l0 K (d : Int) ks (i : Int)) ((deepL (ks.drop i) d + 1 : Nat) : Int) := by
  intro m
  induction m with
  | zero =>
    intro i d hi hs
    refine Ev.step (fun k => by rw [arena_Deep_l0]) ?_
    refine Ev.dF (by omega) (Ev.pure' ?_)
    rw [List.drop_of_length_le (by omega), deepL_nil, wrap_nat (by omega)]
  | succ m ihm =>
    intro i d hi hs
    have hlt : i < ks.length := by omega
    rw [drop_get hlt, wL_cons] at hs
    rw [drop_get hlt, deepL_cons]
    refine Ev.step (fun k => by rw [arena_Deep_l0]) ?_
    refine Ev.dT (by omega) (Ev.opt (getI_lt hlt) (Ev.bind (ih _ (List.getElem_mem hlt)) ?_))
    have hd := deepT_le ks[i]
    rw [wrap_nat (by omega), show (if (d : Int) < (deepT ks[i] : Int) then (deepT ks[i] : Int) else (d : Int)) = ((max d (deepT ks[i]) : Nat) : Int) by split <;> omega]
    exact ihm (i + 1) _ (by omega) (by omega)
theorem ev_deep : ∀ t : Tr, t.w ≤ 1099511627776 → Ev (fun K => arena_Deep K t) (deepT t : Int) := Tr.ind
  (fun _ => Ev.step (fun k => by rw [arena_Deep]) (Ev.pure' (by simp [deepT_nil])))
  fun k n nm mk ks ih h => by
    obtain ⟨h1, h2⟩ := kids_big h
    refine Ev.step (fun k => by rw [arena_Deep]) ?_
    have := ev_deep_loop h2 (fun x hx => ih x hx (by have := wL_mem hx; omega)) ks.length 0 0 (by omega) (by simp only [List.drop_zero]; omega)
    rw [deepT_node]
    simpa using this
open Classical in
/-- Are two things the same? -/
noncomputable def eqB {α : Type} (a b : α) : Bool := decide (a = b)
theorem eqB_t {α : Type} {a b : α} (h : a = b) : eqB a b = true := by simp [eqB, h]
theorem eqB_f {α : Type} {a b : α} (h : a ≠ b) : eqB a b = false := by simp [eqB, h]
end Go.Proofs.YtpplkbcfidpbcaaGreatDoor

/- Plain facts of trees, part 2: few cells, no nil, packing. -/
namespace Go.Proofs.YtpplkbcfidpbcaaGreatDoor
open Go Go.Am Go.Sx
def cutC (c : Cell) : Cell := ⟨c.1, c.2.1, c.2.2.1.take 130, c.2.2.2.1.take 130, c.2.2.2.2.take 12⟩
def fewL (p : List Cell) : List Cell := (p.take 80).map cutC
theorem ev_few_loop {p : List Cell} : ∀ (m i : Nat) (acc : List Cell), i + m = min p.length 80 → acc.length = i → Ev (fun K => law07_cells_l0 K p (i : Int) acc) (acc ++ ((p.take 80).drop i).map cutC) := by
  intro m
  induction m with
  | zero =>
    intro i acc hi ha
    refine Ev.step (fun k => by rw [law07_cells_l0]) ?_
    have hd : (p.take 80).drop i = [] := List.drop_of_length_le (by simp; omega)
    rw [hd]
    refine Ev.d (fun h => ?_) (fun _ => Ev.pure' (by simp))
    exact Ev.dF (by omega) (Ev.pure' (by simp))
  | succ m ihm =>
    intro i acc hi ha
    have hlt : i < p.length := by omega
    have hlt' : i < (p.take 80).length := by simp; omega
    refine Ev.step (fun k => by rw [law07_cells_l0]) ?_
    refine Ev.dT (by omega) (Ev.dT (by omega) (Ev.opt (getI_lt hlt) ?_))
    refine Ev.opt (sub_min (m := 130)) (Ev.opt (sub_min (m := 130)) (Ev.opt (sub_min (m := 12)) ?_))
    refine Ev.opt (appL_ok (by simp; omega)) (Ev.opt (appL_ok (by simp; omega)) ?_)
    rw [wrap_nat (by omega), drop_get hlt', List.map_cons]
    have := ihm (i + 1) (acc ++ [cutC p[i]]) (by omega) (by simp [ha])
    rw [List.append_assoc] at this
    simpa [cutC] using this
theorem ev_few (p : List Cell) : Ev (fun K => law07_cells K p) (fewL p) := by
  have := ev_few_loop (p := p) (min p.length 80) 0 [] (by omega) rfl
  simpa [law07_cells, fewL] using this
/-- Is there no nil in a tree? -/
def fullT : Tr → Bool
  | .nil => false
  | .node _ _ _ _ ks => go ks
where go : List Tr → Bool
  | [] => true
  | k :: ks => fullT k && go ks
abbrev fullL (l : List Tr) : Bool := fullT.go l
theorem fullL_nil : fullL [] = true := by simp [fullT.go]
theorem fullL_cons (k : Tr) (ks : List Tr) : fullL (k :: ks) = (fullT k && fullL ks) := by simp [fullT.go]
theorem fullT_nil : fullT .nil = false := by simp [fullT]
theorem fullT_node {k n nm mk ks} : fullT (Tr.node k n nm mk ks) = fullL ks := by simp [fullT]
theorem fullL_mem : ∀ {l : List Tr}, fullL l = true ↔ ∀ x ∈ l, fullT x = true
  | [] => by simp [fullL_nil]
  | k :: l => by rw [fullL_cons, Bool.and_eq_true, fullL_mem]; simp
theorem ev_indexT_loop {p : List Tr} (hl : p.length ≤ 1099511627776) (ih : ∀ x ∈ p, Ev (fun K => arena_whole K x) (fullT x)) : ∀ (m i : Nat), p.length = i + m →
    ∃ r : Int, Ev (fun K => slices_IndexFunc_l0 K p (i : Int)) r ∧ decide (0 ≤ r) = !fullL (p.drop i) := by
  intro m
  induction m with
  | zero =>
    intro i hi
    refine ⟨-1, ?_, ?_⟩
    · refine Ev.step (fun k => by rw [slices_IndexFunc_l0]) ?_
      exact Ev.dF (by omega) Ev.pure
    · rw [List.drop_of_length_le (by omega), fullL_nil]; rfl
  | succ m ihm =>
    intro i hi
    have hlt : i < p.length := by omega
    have hw : Ev (fun K => arena_whole_1 K p[i]) (!fullT p[i]) := Ev.step (fun k => by rw [arena_whole_1]) (Ev.bind (ih _ (List.getElem_mem hlt)) Ev.pure)
    rw [drop_get hlt, fullL_cons]
    cases hf : fullT p[i] with
    | false =>
      refine ⟨i, ?_, by simp⟩
      refine Ev.step (fun k => by rw [slices_IndexFunc_l0]) ?_
      refine Ev.dT (by omega) (Ev.opt (getI_lt hlt) (Ev.bind hw ?_))
      rw [hf]
      exact Ev.isT rfl Ev.pure
    | true =>
      obtain ⟨r, h1, h2⟩ := ihm (i + 1) (by omega)
      refine ⟨r, ?_, by simpa using h2⟩
      refine Ev.step (fun k => by rw [slices_IndexFunc_l0]) ?_
      refine Ev.dT (by omega) (Ev.opt (getI_lt hlt) (Ev.bind hw ?_))
      rw [hf, wrap_nat (by omega)]
      exact Ev.isF (by simp) h1
theorem ev_whole : ∀ t : Tr, t.w ≤ 1099511627776 → Ev (fun K => arena_whole K t) (fullT t) := Tr.ind
  (fun _ => Ev.step (fun k => by rw [arena_whole]) (Ev.pure' fullT_nil.symm))
  fun k n nm mk ks ih h => by
    obtain ⟨h1, h2⟩ := kids_big h
    refine Ev.step (fun k => by rw [arena_whole]) ?_
    obtain ⟨r, g1, g2⟩ := ev_indexT_loop h2 (fun x hx => ih x hx (by have := wL_mem hx; omega)) ks.length 0 (by omega)
    refine Ev.bind (a := !fullL ks) ?_ (Ev.pure' (by rw [fullT_node, Bool.not_not]))
    refine Ev.step (fun k => by rw [slices_ContainsFunc]) (Ev.bind (a := r) (Ev.step (fun k => by rw [slices_IndexFunc]; rfl) g1) (Ev.pure' (by simpa using g2)))
/-- The cells of a tree whose first one stands at f. -/
def cellsT : Tr → Nat → List Cell
  | .nil, _ => []
  | .node k n nm mk ks, f => (go ks f [] []).2 ++ [⟨k, n, nm, mk, (go ks f [] []).1⟩]
where go : List Tr → Nat → List Int → List Cell → List Int × List Cell
  | [], _, kids, out => (kids, out)
  | t :: ts, f, kids, out => go ts f (kids ++ [((f + (out ++ cellsT t (f + out.length)).length : Nat) : Int) - 1]) (out ++ cellsT t (f + out.length))
abbrev cellsL (l : List Tr) (f : Nat) (kids : List Int) (out : List Cell) : List Int × List Cell := cellsT.go l f kids out
theorem cellsL_nil (f : Nat) (kids : List Int) (out : List Cell) : cellsL [] f kids out = (kids, out) := by simp [cellsT.go]
theorem cellsL_cons (t : Tr) (ts : List Tr) (f : Nat) (kids : List Int) (out : List Cell) :
    cellsL (t :: ts) f kids out = cellsL ts f (kids ++ [((f + (out ++ cellsT t (f + out.length)).length : Nat) : Int) - 1]) (out ++ cellsT t (f + out.length)) := by simp [cellsT.go]
theorem cellsT_nil (f : Nat) : cellsT .nil f = [] := by simp [cellsT]
theorem cellsT_node {k n nm mk ks} (f : Nat) : cellsT (Tr.node k n nm mk ks) f = (cellsL ks f [] []).2 ++ [⟨k, n, nm, mk, (cellsL ks f [] []).1⟩] := by simp [cellsT]
theorem cellsL_len : ∀ {l : List Tr} (f : Nat) (kids : List Int) (out : List Cell), (∀ x ∈ l, ∀ f, (cellsT x f).length = sizeT x) → (cellsL l f kids out).2.length = out.length + sizeL l
  | [], f, kids, out, _ => by simp [cellsL_nil, sizeL_nil]
  | t :: l, f, kids, out, h => by
    rw [cellsL_cons, sizeL_cons, cellsL_len (l := l) _ _ _ fun x hx => h x (List.mem_cons_of_mem _ hx), List.length_append, h t List.mem_cons_self]
    omega
theorem cellsT_len : ∀ (t : Tr) (f : Nat), (cellsT t f).length = sizeT t := Tr.ind (by simp [cellsT_nil, sizeT_nil]) fun k n nm mk ks ih f => by
  rw [cellsT_node, sizeT_node, List.length_append, cellsL_len _ _ _ ih]; simp; omega
theorem ev_add_loop {a b : Int} {nm mk : List UInt8} {ks : List Tr} {acc : List Cell} (hl : ks.length ≤ 1099511627776)
    (ih : ∀ x ∈ ks, ∀ acc : List Cell, acc.length + x.w ≤ 1099511627776 → Ev (fun K => arena_Pack_1 K x acc) ((((acc ++ cellsT x acc.length).length : Nat) : Int) - 1, acc ++ cellsT x acc.length)) : ∀ (m i : Nat) (kids : List Int) (out : List Cell), ks.length = i + m → kids.length = i → acc.length + out.length + wL (ks.drop i) ≤ 1099511627776 →
    Ev (fun K => arena_Pack_1_l0 K ks (i : Int) (acc ++ out) a b nm mk kids) ((((acc ++ ((cellsL (ks.drop i) acc.length kids out).2 ++ [(⟨a, b, nm, mk, (cellsL (ks.drop i) acc.length kids out).1⟩ : Cell)])).length : Nat) : Int) - 1, acc ++ ((cellsL (ks.drop i) acc.length kids out).2 ++ [⟨a, b, nm, mk, (cellsL (ks.drop i) acc.length kids out).1⟩])) := by
  intro m
  induction m with
  | zero =>
    intro i kids out hi hk ho
    refine Ev.step (fun k => by rw [arena_Pack_1_l0]) ?_
    have hd : ks.drop i = [] := List.drop_of_length_le (by omega)
    rw [hd] at ho ⊢
    rw [cellsL_nil]
    refine Ev.dF (by omega) (Ev.opt (appL_ok (by simp; omega)) (Ev.pure' ?_))
    rw [wrap_id (by simp; omega) (by simp; omega), List.append_assoc]
  | succ m ihm =>
    intro i kids out hi hk ho
    have hlt : i < ks.length := by omega
    rw [drop_get hlt, wL_cons] at ho
    rw [drop_get hlt, cellsL_cons]
    have hc := cellsT_len ks[i] (acc.length + out.length)
    have hs := sizeT_le ks[i]
    have hw := w_pos ks[i]
    refine Ev.step (fun k => by rw [arena_Pack_1_l0]) ?_
    refine Ev.dT (by omega) (Ev.opt (getI_lt hlt) ?_)
    refine Ev.bind (ih _ (List.getElem_mem hlt) (acc ++ out) (by simp; omega)) ?_
    have hlen : (out ++ cellsT ks[i] (acc.length + out.length)).length = out.length + sizeT ks[i] := by rw [List.length_append, hc]
    refine Ev.opt (appL_ok (by simp; omega)) ?_
    rw [wrap_nat (by omega)]
    have := ihm (i + 1) (kids ++ [((acc.length + (out ++ cellsT ks[i] (acc.length + out.length)).length : Nat) : Int) - 1]) (out ++ cellsT ks[i] (acc.length + out.length)) (by omega) (by simp [hk]) (by omega)
    simpa [Nat.add_assoc] using this
theorem ev_add : ∀ t : Tr, fullT t = true → ∀ acc : List Cell, acc.length + t.w ≤ 1099511627776 → Ev (fun K => arena_Pack_1 K t acc) ((((acc ++ cellsT t acc.length).length : Nat) : Int) - 1, acc ++ cellsT t acc.length) := Tr.ind
  (fun h => by rw [fullT_nil] at h; cases h)
  fun k n nm mk ks ih h acc hf => by
    rw [fullT_node] at h
    rw [w_node] at hf
    have hl := wL_len ks
    refine Ev.step (fun k => by rw [arena_Pack_1]) ?_
    have := ev_add_loop (a := k) (b := n) (nm := nm) (mk := mk) (acc := acc) (by omega) (fun x hx f' hf' => ih x hx (fullL_mem.1 h x hx) f' hf') ks.length 0 [] [] (by omega) rfl (by simp; omega)
    rw [cellsT_node]
    simpa using this
/-- What a tree is packed to. -/
def packT (t : Tr) : List Cell × Int := if fullT t = true then (if 8192 < sizeT t then ([], 3) else (cellsT t 0, 0)) else ([], 1)
theorem ev_pack (t : Tr) (h : t.w ≤ 1099511627776) : Ev (fun K => arena_Pack K t) (packT t) := by
  unfold arena_Pack packT
  refine Ev.bind (ev_whole t h) ?_
  by_cases hf : fullT t = true
  · rw [if_pos hf]
    refine Ev.isF (by simp [hf]) (Ev.bind (ev_size t h) ?_)
    by_cases hz : 8192 < sizeT t
    · rw [if_pos hz]; exact Ev.dT (by omega) Ev.pure
    · rw [if_neg hz]
      refine Ev.dF (by omega) (Ev.bind (ev_add t hf [] (by simpa using h)) (Ev.pure' ?_))
      simp
  · rw [if_neg hf]
    exact Ev.isT (by simp [hf]) Ev.pure
end Go.Proofs.YtpplkbcfidpbcaaGreatDoor

/- Plain facts of trees, part 3: what cells are opened to. -/
namespace Go.Proofs.YtpplkbcfidpbcaaGreatDoor
open Go Go.Am Go.Sx
def allK (l : List Cell) : List Int := l.flatMap (fun c : Cell => c.2.2.2.2)
theorem allK_append (l m : List Cell) : allK (l ++ m) = allK l ++ allK m := by simp [allK]
theorem allK_one (c : Cell) : allK [c] = c.2.2.2.2 := by simp [allK]
theorem allK_take {p : List Cell} {i : Nat} (h : i < p.length) : allK (p.take (i + 1)) = allK (p.take i) ++ p[i].2.2.2.2 := by
  rw [take_get' h, allK_append, allK_one]
def stepN (acc : List Tr) (c : Cell) : List Tr := acc ++ [.node c.1 c.2.1 c.2.2.1 c.2.2.2.1 (c.2.2.2.2.map fun k => acc.getD k.toNat .nil)]
def nodesL (l : List Cell) : List Tr := l.foldl stepN []
theorem foldN : ∀ (l : List Cell) (acc : List Tr), ∃ r, l.foldl stepN acc = acc ++ r ∧ r.length = l.length
  | [], acc => ⟨[], by simp, rfl⟩
  | c :: l, acc => by
    obtain ⟨r, h1, h2⟩ := foldN l (stepN acc c)
    refine ⟨.node c.1 c.2.1 c.2.2.1 c.2.2.2.1 (c.2.2.2.2.map fun k => acc.getD k.toNat .nil) :: r, ?_, by simp [h2]⟩
    rw [List.foldl_cons, h1, stepN]; simp
theorem nodesL_len (l : List Cell) : (nodesL l).length = l.length := by
  obtain ⟨r, h1, h2⟩ := foldN l []
  rw [nodesL, h1]; simpa using h2
theorem nodesL_pre (l m : List Cell) : ∃ r, nodesL (l ++ m) = nodesL l ++ r := by
  obtain ⟨r, h1, _⟩ := foldN m (nodesL l)
  exact ⟨r, by rw [nodesL, List.foldl_append]; exact h1⟩
theorem nodesL_snoc (l : List Cell) (c : Cell) : nodesL (l ++ [c]) = stepN (nodesL l) c := by simp [nodesL]
theorem nodesL_take {p : List Cell} {i : Nat} (h : i < p.length) : nodesL (p.take (i + 1)) = nodesL (p.take i) ++ [.node p[i].1 p[i].2.1 p[i].2.2.1 p[i].2.2.2.1 (p[i].2.2.2.2.map fun k => (nodesL (p.take i)).getD k.toNat .nil)] := by
  rw [take_get' h, nodesL_snoc, stepN]
theorem nodesL_getD {p : List Cell} {i j : Nat} (hj : j < i) (hi : i ≤ p.length) : (nodesL (p.take i)).getD j .nil = (nodesL p).getD j .nil := by
  obtain ⟨r, hr⟩ := nodesL_pre (p.take i) (p.drop i)
  rw [List.take_append_drop] at hr
  have hl := nodesL_len (p.take i)
  rw [List.length_take] at hl
  rw [hr, List.getD_eq_getElem?_getD, List.getD_eq_getElem?_getD, List.getElem?_append_left (by omega)]
theorem nodesL_at {p : List Cell} {i : Nat} (h : i < p.length) : (nodesL p).getD i .nil = .node p[i].1 p[i].2.1 p[i].2.2.1 p[i].2.2.2.1 (p[i].2.2.2.2.map fun k => (nodesL (p.take i)).getD k.toNat .nil) := by
  have hl := nodesL_len (p.take i)
  rw [List.length_take] at hl
  rw [← nodesL_getD (i := i + 1) (by omega) (by omega), nodesL_take h, List.getD_eq_getElem?_getD, List.getElem?_append_right (by omega)]
  rw [show i - (nodesL (p.take i)).length = 0 by omega]
  rfl
/-- Kids stand ahead of what they lie in. -/
def Valid (p : List Cell) (n : Nat) : Prop := ∀ (i : Nat) (h : i < p.length), i < n → ∀ k ∈ p[i].2.2.2.2, 0 ≤ k ∧ k < i
open Classical in
/-- What cells are opened to. -/
noncomputable def openT (p : List Cell) : Tr × Int :=
  if p.length = 0 then (.nil, 1) else if 8192 < p.length then (.nil, 3)
  else if Valid p p.length ∧ ∀ j : Nat, j + 1 < p.length → (allK p).count (j : Int) = 1 then ((nodesL p).getD (p.length - 1) .nil, 0) else (.nil, 16)
theorem openT_form {p : List Cell} (h0 : p.length ≠ 0) (h1 : p.length ≤ 8192) (hn : ¬ (Valid p p.length ∧ ∀ j : Nat, j + 1 < p.length → (allK p).count (j : Int) = 1)) : openT p = (.nil, 16) := by
  unfold openT; rw [if_neg h0, if_neg (by omega), if_neg hn]
theorem openT_good {p : List Cell} (h0 : p.length ≠ 0) (h1 : p.length ≤ 8192) (hn : Valid p p.length ∧ ∀ j : Nat, j + 1 < p.length → (allK p).count (j : Int) = 1) : openT p = ((nodesL p).getD (p.length - 1) .nil, 0) := by
  unfold openT; rw [if_neg h0, if_neg (by omega), if_pos hn]
theorem openT_bad {p : List Cell} (h1 : p.length ≤ 8192) {i : Nat} (hi : i < p.length) {k : Int} (hk : k ∈ p[i].2.2.2.2) (hb : ¬ (0 ≤ k ∧ k < i)) : openT p = (.nil, 16) :=
  openT_form (by omega) h1 fun h => hb (h.1 i hi hi k hk)
theorem take_kids {l : List Int} {j : Nat} (h : j < l.length) (s : List Int) : s ++ l.take (j + 1) = (s ++ l.take j) ++ [l[j]] := by
  rw [take_get' h, List.append_assoc]
end Go.Proofs.YtpplkbcfidpbcaaGreatDoor

/- Plain facts of trees, part 4: an opened tree is whole and as large as its cells. -/
namespace Go.Proofs.YtpplkbcfidpbcaaGreatDoor
open Go Go.Am Go.Sx
/-- what is not named yet, by weight -/
def rootsW (W : Nat → Nat) (seen : List Int) (i : Nat) : Nat := ((List.range i).map fun j : Nat => if (j : Int) ∈ seen then 0 else W j).sum
theorem rootsW_succ (W : Nat → Nat) (seen : List Int) (i : Nat) : rootsW W seen (i + 1) = rootsW W seen i + if (i : Int) ∈ seen then 0 else W i := by
  unfold rootsW
  rw [List.range_succ, List.map_append, List.sum_append]
  simp
theorem rootsW_mark {W : Nat → Nat} {seen : List Int} {k : Int} (h0 : 0 ≤ k) (hn : k ∉ seen) : ∀ i : Nat, rootsW W (seen ++ [k]) i + (if k < i then W k.toNat else 0) = rootsW W seen i := by
  intro i
  induction i with
  | zero => rw [if_neg (by omega)]; simp [rootsW]
  | succ i ih =>
    rw [rootsW_succ, rootsW_succ]
    by_cases e : k = (i : Int)
    · subst e
      rw [if_neg (by omega)] at ih
      rw [if_pos (by simp), if_pos (by omega), if_neg hn]
      simp only [Int.toNat_natCast]
      omega
    · have hm : ((i : Int) ∈ seen ++ [k]) ↔ (i : Int) ∈ seen := by
        rw [List.mem_append, List.mem_singleton]
        exact ⟨fun h => h.elim id fun h => absurd h.symm e, .inl⟩
      simp only [hm]
      by_cases hlt : k < (i : Int)
      · rw [if_pos hlt] at ih; rw [if_pos (show k < ((i + 1 : Nat) : Int) by omega)]; omega
      · rw [if_neg hlt] at ih; rw [if_neg (show ¬ k < ((i + 1 : Nat) : Int) by omega)]; omega
theorem rootsW_marks {W : Nat → Nat} {i : Nat} : ∀ (ks seen : List Int), (∀ k ∈ ks, 0 ≤ k ∧ k < i) → (seen ++ ks).Nodup → rootsW W (seen ++ ks) i + (ks.map fun k => W k.toNat).sum = rootsW W seen i
  | [], seen, _, _ => by simp
  | k :: ks, seen, h, hn => by
    have hk := h k List.mem_cons_self
    have e : seen ++ k :: ks = (seen ++ [k]) ++ ks := by simp
    rw [e] at hn ⊢
    have h1 := rootsW_marks (W := W) ks (seen ++ [k]) (fun x hx => h x (List.mem_cons_of_mem _ hx)) hn
    have hns : k ∉ seen := by
      have := (List.nodup_append.1 hn).1
      intro hm
      exact (List.nodup_append.1 this).2.2 k hm k (by simp) rfl
    have h2 := rootsW_mark (W := W) hk.1 hns i
    rw [if_pos hk.2] at h2
    rw [List.map_cons, List.sum_cons]
    omega
theorem wL_map {α : Type} (f : α → Tr) : ∀ l : List α, wL (l.map f) = (l.map fun x => (f x).w).sum
  | [] => by simp [wL_nil]
  | x :: l => by rw [List.map_cons, wL_cons, wL_map f l]; simp
theorem sum_zero : ∀ l : List Nat, (l.map fun _ => 0).sum = 0
  | [] => rfl
  | _ :: l => by rw [List.map_cons, List.sum_cons, sum_zero l]
section
variable {p : List Cell} (hv : Valid p p.length)
include hv
theorem kid_lt {i : Nat} (hi : i ≤ p.length) : ∀ k ∈ allK (p.take i), 0 ≤ k ∧ k + 1 < max i 1 := by
  induction i with
  | zero => intro k hk; simp [allK] at hk
  | succ i ih =>
    intro k hk
    rw [allK_take (by omega)] at hk
    rcases List.mem_append.1 hk with h | h
    · have := ih (by omega) k h; omega
    · have := hv i (by omega) (by omega) k h; omega
theorem roots_are (hn : (allK p).Nodup) : ∀ i : Nat, i ≤ p.length → rootsW (fun j => ((nodesL p).getD j .nil).w) (allK (p.take i)) i = i := by
  intro i
  induction i with
  | zero => intro _; simp [rootsW]
  | succ i ih =>
    intro hi
    have hl : i < p.length := by omega
    have hsub : (allK (p.take (i + 1))).Nodup := by
      have e : allK p = allK (p.take (i + 1)) ++ allK (p.drop (i + 1)) := by rw [← allK_append, List.take_append_drop]
      rw [e] at hn
      exact (List.nodup_append.1 hn).1
    rw [rootsW_succ]
    have hni : (i : Int) ∉ allK (p.take (i + 1)) := fun hm => by
      have := kid_lt hv hi _ hm; omega
    rw [if_neg hni, nodesL_at hl, w_node, wL_map]
    rw [allK_take hl] at hsub ⊢
    have hk := hv i hl hl
    have := rootsW_marks (W := fun j => ((nodesL p).getD j .nil).w) p[i].2.2.2.2 (allK (p.take i)) hk hsub
    have hmap : (p[i].2.2.2.2.map fun k => ((nodesL (p.take i)).getD k.toNat .nil).w) = p[i].2.2.2.2.map fun k => ((nodesL p).getD k.toNat .nil).w := by
      apply List.map_congr_left
      intro k hm
      have := hk k hm
      rw [nodesL_getD (by omega) (by omega)]
    rw [hmap]
    have := ih (by omega)
    omega
theorem nodup_of_once (hc : ∀ j : Nat, j + 1 < p.length → (allK p).count (j : Int) = 1) : (allK p).Nodup := by
  rw [List.nodup_iff_count]
  intro a
  by_cases hm : a ∈ allK p
  · have := kid_lt hv (Nat.le_refl _) a (by rw [List.take_length]; exact hm)
    have h1 := hc a.toNat (by omega)
    rw [Int.toNat_of_nonneg this.1] at h1
    omega
  · rw [List.count_eq_zero.2 hm]; omega
theorem full_nodes : ∀ n i : Nat, i < n → i < p.length → fullT ((nodesL p).getD i .nil) = true := by
  intro n
  induction n with
  | zero => intro i h; omega
  | succ n ih =>
    intro i hi hl
    rw [nodesL_at hl, fullT_node, fullL_mem]
    intro x hx
    obtain ⟨k, hk, rfl⟩ := List.mem_map.1 hx
    have := hv i hl hl k hk
    rw [nodesL_getD (by omega) (by omega)]
    exact ih _ (by omega) (by omega)
end
theorem full_w : ∀ t : Tr, fullT t = true → t.w = sizeT t := Tr.ind (fun h => by rw [fullT_nil] at h; cases h) fun k n nm mk ks ih h => by
  rw [fullT_node, fullL_mem] at h
  rw [w_node, sizeT_node]
  have : ∀ l : List Tr, (∀ x ∈ l, x.w = sizeT x) → wL l = sizeL l := by
    intro l
    induction l with
    | nil => intro _; simp [wL_nil, sizeL_nil]
    | cons x l ihl => intro hh; rw [wL_cons, sizeL_cons, hh x List.mem_cons_self, ihl fun y hy => hh y (List.mem_cons_of_mem _ hy)]
  rw [this ks fun x hx => ih x hx (h x hx)]
/-- What is opened: nothing, with a number that is not 0; or a whole tree of as many nodes as there were cells, with 0. -/
theorem openT_cases (p : List Cell) : ((openT p).1 = .nil ∧ (openT p).2 ≠ 0) ∨ ((openT p).2 = 0 ∧ p.length ≠ 0 ∧ p.length ≤ 8192 ∧ fullT (openT p).1 = true ∧ sizeT (openT p).1 = p.length ∧ (openT p).1.w = p.length ∧
    (openT p).1 = (nodesL p).getD (p.length - 1) .nil ∧ Valid p p.length ∧ ∀ j : Nat, j + 1 < p.length → (allK p).count (j : Int) = 1) := by
  unfold openT
  by_cases h0 : p.length = 0
  · rw [if_pos h0]; exact .inl ⟨rfl, by decide⟩
  rw [if_neg h0]
  by_cases h1 : 8192 < p.length
  · rw [if_pos h1]; exact .inl ⟨rfl, by decide⟩
  rw [if_neg h1]
  split
  · rename_i hg
    refine .inr ⟨rfl, h0, by omega, ?_⟩
    have hn := nodup_of_once hg.1 hg.2
    have hf := full_nodes hg.1 p.length (p.length - 1) (by omega) (by omega)
    have hr := roots_are hg.1 hn p.length (Nat.le_refl _)
    rw [List.take_length] at hr
    obtain ⟨n, hnl⟩ : ∃ n, p.length = n + 1 := ⟨p.length - 1, by omega⟩
    rw [hnl, rootsW_succ] at hr
    have hz : rootsW (fun j => ((nodesL p).getD j .nil).w) (allK p) n = 0 := by
      unfold rootsW
      have : ((List.range n).map fun j : Nat => if (j : Int) ∈ allK p then 0 else ((nodesL p).getD j .nil).w) = (List.range n).map fun _ => 0 := by
        apply List.map_congr_left
        intro j hj
        rw [List.mem_range] at hj
        have := hg.2 j (by omega)
        rw [if_pos (List.count_pos_iff.1 (by omega))]
      rw [this]
      exact sum_zero _
    have hni : (n : Int) ∉ allK p := fun hm => by
      have := kid_lt hg.1 (Nat.le_refl _) _ (by rw [List.take_length]; exact hm); omega
    rw [hz, if_neg hni] at hr
    have hw : ((nodesL p).getD (p.length - 1) .nil).w = p.length := by rw [hnl, Nat.add_sub_cancel]; omega
    exact ⟨hf, by rw [← full_w _ hf]; exact hw, hw, rfl, hg.1, hg.2⟩
  · exact .inl ⟨rfl, by decide⟩
theorem openT_w (p : List Cell) : (openT p).1.w ≤ 8192 := by
  rcases openT_cases p with ⟨h, _⟩ | h
  · rw [h]; decide
  · omega
end Go.Proofs.YtpplkbcfidpbcaaGreatDoor

/- Plain facts of trees, part 9: the program's way to open cells. -/
namespace Go.Proofs.YtpplkbcfidpbcaaGreatDoor
open Go Go.Am Go.Sx
/-- which places were named -/
def usedOf (n : Nat) (seen : List Int) : List Bool := (List.range n).map fun j : Nat => decide ((j : Int) ∈ seen)
theorem usedOf_len (n : Nat) (s : List Int) : (usedOf n s).length = n := by simp [usedOf]
theorem usedOf_get {n : Nat} {s : List Int} {k : Int} (h0 : 0 ≤ k) (h : k < n) : getI (usedOf n s) k = some (decide (k ∈ s)) := by
  unfold getI usedOf
  rw [if_pos h0, List.getElem?_map, List.getElem?_range (by omega)]
  simp [Int.toNat_of_nonneg h0]
theorem usedOf_set {n : Nat} {s : List Int} {k : Int} (h0 : 0 ≤ k) : (usedOf n s).set k.toNat true = usedOf n (s ++ [k]) := by
  apply List.ext_getElem?
  intro j
  unfold usedOf
  rw [List.getElem?_set]
  simp only [List.length_map, List.length_range, List.getElem?_map]
  by_cases e : k.toNat = j
  · subst e
    by_cases hl : k.toNat < n
    · rw [if_pos rfl, if_pos hl, List.getElem?_range hl]
      simp [Int.toNat_of_nonneg h0]
    · rw [if_pos rfl, if_neg hl, List.getElem?_eq_none (by simp; omega)]; rfl
  · rw [if_neg e]
    by_cases hl : j < n
    · rw [List.getElem?_range hl]
      have hne : ¬ (j : Int) = k := by omega
      simp [List.mem_append, hne]
    · rw [List.getElem?_eq_none (by simp; omega)]; rfl

def nodesAt (p : List Cell) (i : Nat) : List Tr := nodesL (p.take i) ++ List.replicate (p.length - i) .nil
theorem nodesAt_len {p : List Cell} {i : Nat} (h : i ≤ p.length) : (nodesAt p i).length = p.length := by
  have := nodesL_len (p.take i)
  rw [List.length_take] at this
  simp [nodesAt]; omega
theorem nodesAt_get {p : List Cell} {i : Nat} {k : Int} (h0 : 0 ≤ k) (hk : k < i) (h : i ≤ p.length) : getI (nodesAt p i) k = some ((nodesL (p.take i)).getD k.toNat .nil) := by
  have := nodesL_len (p.take i)
  rw [List.length_take] at this
  unfold getI nodesAt
  rw [if_pos h0, List.getElem?_append_left (by omega), List.getD_eq_getElem?_getD, List.getElem?_eq_getElem (by omega)]
  rfl
theorem nodesAt_set {p : List Cell} {i : Nat} (h : i < p.length) :
    (nodesAt p i).set i (.node p[i].1 p[i].2.1 p[i].2.2.1 p[i].2.2.2.1 (p[i].2.2.2.2.map fun k => (nodesL (p.take i)).getD k.toNat .nil)) = nodesAt p (i + 1) := by
  have hl := nodesL_len (p.take i)
  rw [List.length_take] at hl
  unfold nodesAt
  rw [nodesL_take h, List.set_append, if_neg (by omega), show i - (nodesL (p.take i)).length = 0 by omega, show p.length - i = (p.length - (i + 1)) + 1 by omega, List.replicate_succ, List.set_cons_zero]
  simp

theorem ev_index_bool {l : List Bool} (hl : l.length ≤ 1099511627776) : ∀ (m i : Nat), l.length = i + m → ∃ r : Int, Ev (fun K => slices_Index_2_l0 K l false (i : Int)) r ∧ (0 ≤ r ↔ false ∈ l.drop i) := by
  intro m
  induction m with
  | zero =>
    intro i hi
    refine ⟨-1, Ev.step (fun k => by rw [slices_Index_2_l0]) (Ev.dF (by omega) Ev.pure), ?_⟩
    rw [List.drop_of_length_le (by omega)]; simp
  | succ m ih =>
    intro i hi
    have hlt : i < l.length := by omega
    rw [drop_get hlt]
    cases hb : l[i] with
    | false =>
      refine ⟨i, Ev.step (fun k => by rw [slices_Index_2_l0]) (Ev.dT (by omega) (Ev.opt (getI_lt hlt) ?_)), by simp⟩
      rw [hb]
      exact Ev.isT rfl Ev.pure
    | true =>
      obtain ⟨r, h1, h2⟩ := ih (i + 1) (by omega)
      refine ⟨r, Ev.step (fun k => by rw [slices_Index_2_l0]) (Ev.dT (by omega) (Ev.opt (getI_lt hlt) ?_)), by rw [h2]; simp⟩
      rw [hb, wrap_nat (by omega)]
      exact Ev.isF rfl h1

theorem ev_contains2 {l : List Bool} (hl : l.length ≤ 1099511627776) : Ev (fun K => slices_Contains_2 K l false) (eqB (false ∈ l) True) := by
  obtain ⟨r, h1, h2⟩ := ev_index_bool hl l.length 0 (by omega)
  unfold slices_Contains_2 slices_Index_2
  refine Ev.bind h1 (Ev.pure' ?_)
  rw [List.drop_zero] at h2
  by_cases h : false ∈ l
  · rw [dec_t (h2.2 h), eqB_t (by simp [h])]
  · rw [eqB_f (by simp [h])]
    exact decide_eq_false fun hr => h (h2.1 hr)

theorem openT_twice {p : List Cell} (h0 : p.length ≠ 0) (h1 : p.length ≤ 8192) {i j : Nat} (hi : i < p.length) (hj : j < p[i].2.2.2.2.length) (hb : 0 ≤ p[i].2.2.2.2[j] ∧ p[i].2.2.2.2[j] < i) (hm : p[i].2.2.2.2[j] ∈ allK (p.take i) ++ p[i].2.2.2.2.take j) : openT p = (.nil, 16) := by
  refine openT_form h0 h1 fun h => ?_
  have hc := h.2 p[i].2.2.2.2[j].toNat (by omega)
  rw [Int.toNat_of_nonneg hb.1] at hc
  have e : allK p = (allK (p.take i) ++ p[i].2.2.2.2.take j) ++ p[i].2.2.2.2[j] :: (p[i].2.2.2.2.drop (j + 1) ++ allK (p.drop (i + 1))) := by
    have e1 : allK p = allK (p.take (i + 1)) ++ allK (p.drop (i + 1)) := by rw [← allK_append, List.take_append_drop]
    have e2 : p[i].2.2.2.2 = p[i].2.2.2.2.take j ++ p[i].2.2.2.2[j] :: p[i].2.2.2.2.drop (j + 1) := by rw [← drop_get hj, List.take_append_drop]
    rw [e1, allK_take hi, List.append_assoc, List.append_assoc]
    congr 1
    rw [← List.cons_append, ← List.append_assoc, ← e2]
  rw [e, List.count_append, List.count_cons, if_pos (by simp)] at hc
  have := List.count_pos_iff.2 hm
  omega

section
variable {p : List Cell} (h0 : p.length ≠ 0) (h1 : p.length ≤ 8192) (hk : ∀ c ∈ p, c.2.2.2.2.length ≤ 1048576)
include h0 h1 hk

theorem ev_open_l0 : ∀ (m i : Nat), p.length = i + m → Valid p i → (allK (p.take i)).Nodup → Ev (fun K => arena_Open_l0 K p (nodesAt p i) (usedOf p.length (allK (p.take i))) (i : Int)) (openT p) := by
  intro m
  induction m with
  | zero =>
    intro i hi hv hn
    refine Ev.step (fun k => by rw [arena_Open_l0]) ?_
    refine Ev.dF (by omega) ?_
    have e : i = p.length := by omega
    subst e
    rw [List.take_length] at hn ⊢
    rw [wrap_id (by omega) (by omega), show (p.length : Int) - 1 = ((p.length - 1 : Nat) : Int) by omega]
    refine Ev.opt (subL_ok (a := 0) (by omega) (by rw [usedOf_len]; omega)) ?_
    refine Ev.bind (ev_contains2 (by simp [usedOf_len]; omega)) ?_
    have hmem : (false ∈ ((usedOf p.length (allK p)).take (p.length - 1)).drop 0) ↔ ∃ j : Nat, j + 1 < p.length ∧ (j : Int) ∉ allK p := by
      rw [List.drop_zero, usedOf, ← List.map_take, List.take_range, Nat.min_eq_left (by omega)]
      simp only [List.mem_map, List.mem_range, decide_eq_false_iff_not]
      exact ⟨fun ⟨j, h1, h2⟩ => ⟨j, by omega, h2⟩, fun ⟨j, h1, h2⟩ => ⟨j, by omega, h2⟩⟩
    by_cases hx : ∃ j : Nat, j + 1 < p.length ∧ (j : Int) ∉ allK p
    · refine Ev.isT (eqB_t (eq_true (hmem.2 hx))) (Ev.pure' ?_)
      obtain ⟨j, h2, h3⟩ := hx
      refine (openT_form h0 h1 fun h => ?_).symm
      have := h.2 j h2
      rw [List.count_eq_zero.2 h3] at this
      omega
    · refine Ev.isF (eqB_f (fun h => hx (hmem.1 (of_eq_true h)))) ?_
      rw [openT_good h0 h1 ⟨hv, fun j hj => ?_⟩]
      · refine Ev.iteT ⟨by omega, by rw [nodesAt_len (Nat.le_refl _)]; omega⟩ (Ev.opt (nodesAt_get (by omega) (by omega) (Nat.le_refl _)) (Ev.pure' ?_))
        rw [List.take_length]
        rfl
      · have hm : (j : Int) ∈ allK p := by
          by_cases hm : (j : Int) ∈ allK p
          · exact hm
          · exact absurd ⟨j, hj, hm⟩ hx
        have := List.count_pos_iff.2 hm
        have := List.nodup_iff_count.1 hn (j : Int)
        omega
  | succ m ih =>
    intro i hi hv hn
    have hl : i < p.length := by omega
    have hkk := hk _ (List.getElem_mem hl)
    refine Ev.step (fun k => by rw [arena_Open_l0]) (Ev.dT (by omega) (Ev.opt (getI_lt hl) ?_))
    have loop : ∀ (m' j : Nat), p[i].2.2.2.2.length = j + m' → (∀ k ∈ p[i].2.2.2.2.take j, 0 ≤ k ∧ k < i) → (allK (p.take i) ++ p[i].2.2.2.2.take j).Nodup →
        Ev (fun K => arena_Open_l1 K p (nodesAt p i) (usedOf p.length (allK (p.take i) ++ p[i].2.2.2.2.take j)) (i : Int) (i : Int) p[i].2.2.2.2 (j : Int) p[i].1 p[i].2.1 p[i].2.2.1 p[i].2.2.2.1 ((p[i].2.2.2.2.take j).map fun k => (nodesL (p.take i)).getD k.toNat .nil)) (openT p) := by
      intro m'
      induction m' with
      | zero =>
        intro j hj hg hnn
        refine Ev.step (fun k => by rw [arena_Open_l1]) (Ev.dF (by omega) ?_)
        rw [List.take_of_length_le (l := p[i].2.2.2.2) (by omega)] at hg hnn ⊢
        refine Ev.iteT ⟨by omega, by rw [nodesAt_len (by omega)]; omega⟩ (Ev.opt (getI_lt (by rw [nodesAt_len (by omega)]; omega)) ?_)
        rw [wrap_nat (by omega), Int.toNat_natCast, nodesAt_set hl]
        rw [← allK_take hl] at hnn ⊢
        refine ih (i + 1) (by omega) (fun i' h' hlt k hk' => ?_) hnn
        by_cases e : i' = i
        · subst e; exact hg k hk'
        · exact hv i' h' (by omega) k hk'
      | succ m' ihm =>
        intro j hj hg hnn
        have hjl : j < p[i].2.2.2.2.length := by omega
        refine Ev.step (fun k => by rw [arena_Open_l1]) (Ev.dT (by omega) (Ev.opt (getI_lt hjl) ?_))
        refine Ev.d (fun e => Ev.pure' (openT_bad h1 hl (List.getElem_mem hjl) (by omega)).symm) fun e => ?_
        refine Ev.d (fun e2 => Ev.pure' (openT_bad h1 hl (List.getElem_mem hjl) (by omega)).symm) fun e2 => ?_
        refine Ev.iteT ⟨by omega, by rw [usedOf_len]; omega⟩ (Ev.opt (usedOf_get (by omega) (by omega)) ?_)
        refine Ev.d (fun e3 => Ev.pure' (openT_twice h0 h1 hl hjl ⟨by omega, by omega⟩ e3).symm) fun e3 => ?_
        refine Ev.iteT ⟨by omega, by rw [usedOf_len]; omega⟩ (Ev.opt (usedOf_get (by omega) (by omega)) ?_)
        refine Ev.iteT ⟨by omega, by rw [nodesAt_len (by omega)]; omega⟩ (Ev.opt (nodesAt_get (by omega) (by omega) (by omega)) (Ev.opt (appL_ok (by simp; omega)) ?_))
        rw [wrap_nat (by omega), usedOf_set (by omega), ← take_kids hjl]
        have := ihm (j + 1) (by omega) (fun k hk' => ?_) ?_
        · rw [take_get' hjl, List.map_append, List.map_cons, List.map_nil] at this
          rw [take_get' hjl]
          exact this
        · rw [take_get' hjl] at hk'
          rcases List.mem_append.1 hk' with h | h
          · exact hg k h
          · rw [List.mem_singleton.1 h]; omega
        · rw [take_kids hjl, List.nodup_append]
          refine ⟨hnn, by simp, fun a ha b hb => ?_⟩
          rw [List.mem_singleton.1 hb]
          exact fun e => e3 (e ▸ ha)
    have := loop p[i].2.2.2.2.length 0 (by omega) (by simp) (by simpa using hn)
    simpa using this
end

theorem ev_open {p : List Cell} (hk : ∀ c ∈ p, c.2.2.2.2.length ≤ 1048576) : Ev (fun K => arena_Open K p) (openT p) := by
  unfold arena_Open
  by_cases h0 : p.length = 0
  · refine Ev.dT (by omega) (Ev.pure' ?_)
    unfold openT; rw [if_pos h0]
  refine Ev.dF (by omega) ?_
  by_cases h1 : 8192 < p.length
  · refine Ev.dT (by omega) (Ev.pure' ?_)
    unfold openT; rw [if_neg h0, if_pos h1]
  refine Ev.dF (by omega) (Ev.opt (mkL_ok (by omega)) (Ev.opt (mkL_ok (by omega)) ?_))
  have := ev_open_l0 h0 (by omega) hk p.length 0 (by omega) (fun i _ hi => by omega) (by simp [allK])
  have e : usedOf p.length (allK (p.take 0)) = List.replicate p.length false := by
    apply List.ext_getElem
    · simp [usedOf]
    · intro j h1 h2; simp [usedOf, allK]
  rw [e] at this
  have e2 : nodesAt p 0 = List.replicate p.length .nil := by simp [nodesAt, nodesL]
  rw [e2] at this
  exact this
end Go.Proofs.YtpplkbcfidpbcaaGreatDoor

