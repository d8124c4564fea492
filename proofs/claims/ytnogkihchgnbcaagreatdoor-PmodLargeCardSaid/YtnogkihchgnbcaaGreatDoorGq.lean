/- Joined texts: A1, A2, A3, A4, S1, S2, S3, S5b, Pr0. -/
import Derived.Test.YtnogkihchgnbcaaGreatDoorGp
import Derived.Test.YtnogkihchgnbcaaGreatDoorGf
/- Plain facts of trees, part 1: size, depth. -/
namespace Go.Proofs.YtnogkihchgnbcaaGreatDoor
open Go Go.Am Go.Sx
def kindOf : Tr → Int
  | .nil => 0
  | .node k _ _ _ _ => k
def sizeT : Tr → Nat
  | .nil => 0
  | .node _ _ _ _ ks => 1 + go ks
where go : List Tr → Nat
  | [] => 0
  | k :: ks => sizeT k + go ks
abbrev sizeL (l : List Tr) : Nat := sizeT.go l
theorem sizeL_nil : sizeL [] = 0 := by simp [sizeT.go]
theorem sizeL_cons (k : Tr) (ks : List Tr) : sizeL (k :: ks) = sizeT k + sizeL ks := by simp [sizeT.go]
theorem sizeT_nil : sizeT .nil = 0 := by simp [sizeT]
theorem sizeT_node {k n nm mk ks} : sizeT (Tr.node k n nm mk ks) = 1 + sizeL ks := by simp [sizeT]
theorem sizeL_le : ∀ {l : List Tr}, (∀ x ∈ l, sizeT x ≤ x.w) → sizeL l ≤ wL l
  | [], _ => by simp [sizeL_nil, wL_nil]
  | k :: l, h => by
    rw [sizeL_cons, wL_cons]
    have := h k List.mem_cons_self
    have := sizeL_le (l := l) fun x hx => h x (List.mem_cons_of_mem _ hx)
    omega
theorem sizeT_le : ∀ t : Tr, sizeT t ≤ t.w := Tr.ind (by simp [sizeT_nil]) fun k n nm mk ks ih => by
  rw [sizeT_node, w_node]; have := sizeL_le ih; omega
def deepT : Tr → Nat
  | .nil => 0
  | .node _ _ _ _ ks => go ks 0 + 1
where go : List Tr → Nat → Nat
  | [], d => d
  | k :: ks, d => go ks (max d (deepT k))
abbrev deepL (l : List Tr) (d : Nat) : Nat := deepT.go l d
theorem deepL_nil (d : Nat) : deepL [] d = d := by simp [deepT.go]
theorem deepL_cons (k : Tr) (ks : List Tr) (d : Nat) : deepL (k :: ks) d = deepL ks (max d (deepT k)) := by simp [deepT.go]
theorem deepT_nil : deepT .nil = 0 := by simp [deepT]
theorem deepT_node {k n nm mk ks} : deepT (Tr.node k n nm mk ks) = deepL ks 0 + 1 := by simp [deepT]
theorem deepL_le : ∀ {l : List Tr} (d : Nat), (∀ x ∈ l, deepT x ≤ x.w) → deepL l d ≤ d + wL l
  | [], d, _ => by simp [deepL_nil, wL_nil]
  | k :: l, d, h => by
    rw [deepL_cons, wL_cons]
    have := h k List.mem_cons_self
    have := deepL_le (l := l) (max d (deepT k)) fun x hx => h x (List.mem_cons_of_mem _ hx)
    omega
theorem deepT_le : ∀ t : Tr, deepT t ≤ t.w := Tr.ind (by simp [deepT_nil]) fun k n nm mk ks ih => by
  rw [deepT_node, w_node]; have := deepL_le 0 ih; omega
theorem kids_big {k n nm mk ks} (h : (Tr.node k n nm mk ks).w ≤ 1099511627776) : wL ks ≤ 1099511627776 ∧ ks.length ≤ 1099511627776 := by
  rw [w_node] at h
  have := wL_len ks
  omega
theorem ev_size_loop {ks : List Tr} (hl : ks.length ≤ 1099511627776) (ih : ∀ x ∈ ks, Ev (fun K => arena_Size K x) (sizeT x : Int)) : ∀ (m i s : Nat), ks.length = i + m → s + sizeL (ks.drop i) ≤ 2 * 1099511627776 →
    Ev (fun K => arena_Size_l0 K (s : Int) ks (i : Int)) ((s + sizeL (ks.drop i) : Nat) : Int) := by
  intro m
  induction m with
  | zero =>
    intro i s hi hs
    refine Ev.step (fun k => by rw [arena_Size_l0]) ?_
    refine Ev.dF (by omega) (Ev.pure' ?_)
    rw [List.drop_of_length_le (by omega), sizeL_nil]; rfl
  | succ m ihm =>
    intro i s hi hs
    have hlt : i < ks.length := by omega
    rw [drop_get hlt, sizeL_cons] at hs ⊢
    refine Ev.step (fun k => by rw [arena_Size_l0]) ?_
    refine Ev.dT (by omega) (Ev.opt (getI_lt hlt) (Ev.bind (ih _ (List.getElem_mem hlt)) ?_))
    rw [wrap_nat (by omega), wrap_id (by omega) (by omega)]
    have := ihm (i + 1) (s + sizeT ks[i]) (by omega) (by omega)
    rw [Int.natCast_add] at this
    rw [show s + (sizeT ks[i] + sizeL (ks.drop (i + 1))) = s + sizeT ks[i] + sizeL (ks.drop (i + 1)) by omega]
    exact this
theorem ev_size : ∀ t : Tr, t.w ≤ 1099511627776 → Ev (fun K => arena_Size K t) (sizeT t : Int) := Tr.ind
  (fun _ => Ev.step (fun k => by rw [arena_Size]) (Ev.pure' (by simp [sizeT_nil])))
  fun k n nm mk ks ih h => by
    obtain ⟨h1, h2⟩ := kids_big h
    refine Ev.step (fun k => by rw [arena_Size]) ?_
    have := ev_size_loop h2 (fun x hx => ih x hx (by have := wL_mem hx; omega)) ks.length 0 1 (by omega) (by
      have := sizeL_le (l := ks) fun x _ => sizeT_le x
      simp only [List.drop_zero]; omega)
    rw [sizeT_node]
    simpa using this
theorem ev_deep_loop {ks : List Tr} (hl : ks.length ≤ 1099511627776) (ih : ∀ x ∈ ks, Ev (fun K => arena_Deep K x) (deepT x : Int)) : ∀ (m i d : Nat), ks.length = i + m → d + wL (ks.drop i) ≤ 2 * 1099511627776 →
    Ev (fun K => arena_Deep_l0 K (d : Int) ks (i : Int)) ((deepL (ks.drop i) d + 1 : Nat) : Int) := by
  intro m
  induction m with
  | zero =>
    intro i d hi hs
    refine Ev.step (fun k => by rw [arena_Deep_l0]) ?_
    refine Ev.dF (by omega) (Ev.pure' ?_)
    rw [List.drop_of_length_le (by omega), deepL_nil, wrap_nat (by omega)]
  | succ m ihm =>
    intro i d hi hs
    have hlt : i < ks.length := by omega
    rw [drop_get hlt, wL_cons] at hs
    rw [drop_get hlt, deepL_cons]
    refine Ev.step (fun k => by rw [arena_Deep_l0]) ?_
    refine Ev.dT (by omega) (Ev.opt (getI_lt hlt) (Ev.bind (ih _ (List.getElem_mem hlt)) ?_))
    have hd := deepT_le ks[i]
    rw [wrap_nat (by omega), show (if (d : Int) < (deepT ks[i] : Int) then (deepT ks[i] : Int) else (d : Int)) = ((max d (deepT ks[i]) : Nat) : Int) by split <;> omega]
    exact ihm (i + 1) _ (by omega) (by omega)
theorem ev_deep : ∀ t : Tr, t.w ≤ 1099511627776 → Ev (fun K => arena_Deep K t) (deepT t : Int) := Tr.ind
  (fun _ => Ev.step (fun k => by rw [arena_Deep]) (Ev.pure' (by simp [deepT_nil])))
  fun k n nm mk ks ih h => by
    obtain ⟨h1, h2⟩ := kids_big h
    refine Ev.step (fun k => by rw [arena_Deep]) ?_
    have := ev_deep_loop h2 (fun x hx => ih x hx (by have := wL_mem hx; omega)) ks.length 0 0 (by omega) (by simp only [List.drop_zero]; omega)
    rw [deepT_node]
    simpa using this
end Go.Proofs.YtnogkihchgnbcaaGreatDoor

/- Plain facts of trees, part 2: few cells, no nil, packing. -/
namespace Go.Proofs.YtnogkihchgnbcaaGreatDoor
open Go Go.Am Go.Sx
/-- Is there no nil in a tree? -/
def fullT : Tr → Bool
  | .nil => false
  | .node _ _ _ _ ks => go ks
where go : List Tr → Bool
  | [] => true
  | k :: ks => fullT k && go ks
/-- The cells of a tree whose first one stands at f. -/
def cellsT : Tr → Nat → List Cell
  | .nil, _ => []
  | .node k n nm mk ks, f => (go ks f [] []).2 ++ [⟨k, n, nm, mk, (go ks f [] []).1⟩]
where go : List Tr → Nat → List Int → List Cell → List Int × List Cell
  | [], _, kids, out => (kids, out)
  | t :: ts, f, kids, out => go ts f (kids ++ [((f + (out ++ cellsT t (f + out.length)).length : Nat) : Int) - 1]) (out ++ cellsT t (f + out.length))
/-- What a tree is packed to. -/
def packT (t : Tr) : List Cell × Int := if fullT t = true then (if 8192 < sizeT t then ([], 3) else (cellsT t 0, 0)) else ([], 1)
end Go.Proofs.YtnogkihchgnbcaaGreatDoor

/- Plain facts of trees, part 3: what cells are opened to. -/
namespace Go.Proofs.YtnogkihchgnbcaaGreatDoor
open Go Go.Am Go.Sx
/-- Kids stand ahead of what they lie in. -/
def Valid (p : List Cell) (n : Nat) : Prop := ∀ (i : Nat) (h : i < p.length), i < n → ∀ k ∈ p[i].2.2.2.2, 0 ≤ k ∧ k < i
end Go.Proofs.YtnogkihchgnbcaaGreatDoor

/- Plain facts of trees, part 4: an opened tree is whole and as large as its cells. -/
namespace Go.Proofs.YtnogkihchgnbcaaGreatDoor
open Go Go.Am Go.Sx
end Go.Proofs.YtnogkihchgnbcaaGreatDoor

/- Shapes, part 1: what a tree of a category is, by the table. -/
namespace Go.Proofs.YtnogkihchgnbcaaGreatDoor
open Go Go.Am Go.Sx

/-- A tree without nil, whose names and rows are not beyond all measure. -/
inductive Good : Tr → Prop
  | mk {k n nm mk ks} (h1 : nm.length ≤ 1099511627776) (h2 : mk.length ≤ 1099511627776) (h3 : ks.length ≤ 1099511627776) (h4 : ∀ x ∈ ks, Good x) : Good (.node k n nm mk ks)

abbrev Row := Int × Int × List UInt8 × List UInt8 × Int × Int × List UInt8
def rows5 : List Row := ([(1, 1, ([] : List UInt8), ([] : List UInt8), 0, 0, ([] : List UInt8)), (1, 2, ([] : List UInt8), ([] : List UInt8), 0, 0, ([] : List UInt8)), (1, 3, ([] : List UInt8), ([] : List UInt8), 0, 0, ([] : List UInt8)), (1, 4, ([108] : List UInt8), ([] : List UInt8), 0, 0, ([] : List UInt8)), (1, 5, ([] : List UInt8), ([] : List UInt8), 0, 0, ([116, 116] : List UInt8)), (1, 6, ([] : List UInt8), ([] : List UInt8), 0, 0, ([116, 116] : List UInt8)), (1, 7, ([110] : List UInt8), ([] : List UInt8), 0, 0, ([67] : List UInt8)), (2, 20, ([] : List UInt8), ([] : List UInt8), (IntKind.i64.wrap (0 - 1073741824)), 1073741824, ([] : List UInt8)), (2, 21, ([] : List UInt8), ([] : List UInt8), 0, 1, ([] : List UInt8)), (2, 22, ([] : List UInt8), ([] : List UInt8), 0, 0, ([] : List UInt8)), (2, 23, ([108] : List UInt8), ([] : List UInt8), 0, 0, ([] : List UInt8)), (2, 24, ([110] : List UInt8), ([] : List UInt8), 0, 0, ([116, 101] : List UInt8)), (2, 25, ([] : List UInt8), ([] : List UInt8), 0, 0, ([101, 101] : List UInt8)), (2, 26, ([] : List UInt8), ([] : List UInt8), 0, 0, ([101, 101] : List UInt8)), (2, 27, ([] : List UInt8), ([] : List UInt8), 0, 0, ([101] : List UInt8)), (2, 28, ([] : List UInt8), ([] : List UInt8), 0, 0, ([101] : List UInt8)), (2, 29, ([110] : List UInt8), ([] : List UInt8), 0, 0, ([101, 101] : List UInt8)), (2, 30, ([] : List UInt8), ([] : List UInt8), 0, 0, ([101, 101, 101] : List UInt8)), (2, 31, ([] : List UInt8), ([] : List UInt8), 1, 5, ([101, 101] : List UInt8)), (2, 32, ([] : List UInt8), ([] : List UInt8), 0, 0, ([101, 65] : List UInt8)), (2, 33, ([] : List UInt8), ([] : List UInt8), 0, 0, ([101, 116, 65] : List UInt8)), (3, 40, ([] : List UInt8), ([] : List UInt8), 0, 0, ([42, 105] : List UInt8)), (3, 41, ([108] : List UInt8), ([] : List UInt8), 0, 0, ([] : List UInt8)), (3, 42, ([110] : List UInt8), ([] : List UInt8), 0, 0, ([109] : List UInt8)), (3, 43, ([] : List UInt8), ([] : List UInt8), 0, 1, ([109, 115] : List UInt8)), (4, 50, ([] : List UInt8), ([] : List UInt8), 0, 0, ([42, 112] : List UInt8)), (4, 51, ([110] : List UInt8), ([] : List UInt8), 0, 0, ([] : List UInt8)), (4, 52, ([108] : List UInt8), ([] : List UInt8), 0, 0, ([115, 116] : List UInt8)), (5, 60, ([110] : List UInt8), ([] : List UInt8), 0, 0, ([116] : List UInt8)), (5, 61, ([110] : List UInt8), ([] : List UInt8), 0, 0, ([116] : List UInt8)), (5, 61, ([110] : List UInt8), ([] : List UInt8), 0, 0, ([] : List UInt8)), (5, 62, ([110] : List UInt8), ([] : List UInt8), 0, 0, ([67] : List UInt8)), (5, 63, ([110] : List UInt8), ([] : List UInt8), 0, 0, ([115] : List UInt8)), (5, 64, ([] : List UInt8), ([] : List UInt8), 0, 0, ([115] : List UInt8)), (5, 65, ([108] : List UInt8), ([108] : List UInt8), 0, 0, ([] : List UInt8)), (6, 70, ([110] : List UInt8), ([] : List UInt8), 0, 0, ([101] : List UInt8)), (6, 70, ([110] : List UInt8), ([] : List UInt8), 0, 0, ([116, 101] : List UInt8)), (6, 71, ([110] : List UInt8), ([] : List UInt8), 0, 0, ([116] : List UInt8)), (6, 72, ([110] : List UInt8), ([] : List UInt8), 0, 0, ([67] : List UInt8)), (6, 73, ([110] : List UInt8), ([] : List UInt8), 0, 0, ([109] : List UInt8)), (6, 74, ([110] : List UInt8), ([] : List UInt8), 0, 0, ([115] : List UInt8)), (6, 75, ([110] : List UInt8), ([110] : List UInt8), 0, 0, ([115, 109] : List UInt8)), (6, 76, ([108] : List UInt8), ([] : List UInt8), 0, 0, ([] : List UInt8)), (6, 77, ([108] : List UInt8), ([] : List UInt8), 0, 0, ([] : List UInt8)), (7, 80, ([] : List UInt8), ([] : List UInt8), 0, 0, ([42, 100] : List UInt8)), (8, 8, ([110] : List UInt8), ([] : List UInt8), 0, 0, ([116] : List UInt8)), (9, 34, ([110] : List UInt8), ([110] : List UInt8), 0, 0, ([101] : List UInt8))] : List (Int × Int × (List UInt8) × (List UInt8) × Int × Int × (List UInt8)))
def wordS (s what : List UInt8) : Bool := if what = [110] then ckS s else if what = [108] then lgS s else decide (s = [])
def catS (c : UInt8) : Int := if c = 116 then 1 else if c = 101 then 2 else if c = 109 then 3 else if c = 115 then 4 else if c = 112 then 5 else 6
def consGo (is8 : Tr → Bool) : List (List UInt8) → List Tr → Bool
  | _, [] => true
  | seen, k :: ks => is8 k && (!decide (nameOf k ∈ seen) && consGo is8 (seen ++ [nameOf k]) ks)
def notI (c : UInt8) (x : Tr) : Bool := !(decide (c = 105) && (decide (kindOf x = 74) || decide (kindOf x = 75)))
def kidsS (is : Int → Tr → Bool) : List UInt8 → List Tr → Bool
  | [], l => decide (l.length = 0)
  | c :: w, l =>
    if c = 42 then l.all fun x => is (catS (w.headD 0)) x && notI (w.headD 0) x
    else if c = 67 then consGo (is 8) [] l && decide (0 < l.length)
    else if c = 65 then l.all (is 9) && decide (0 < l.length)
    else match l with
      | [] => false
      | k :: ks => is (catS c) k && kidsS is w ks
/-- what a row asks of a node of its kind -/
def bodyS (is : Int → Tr → Bool) (n : Int) (nm mk : List UInt8) (ks : List Tr) (r : Row) : Bool :=
  wordS nm r.2.2.1 && (wordS mk r.2.2.2.1 && (decide (r.2.2.2.2.1 ≤ n) && (decide (n ≤ r.2.2.2.2.2.1) && kidsS is r.2.2.2.2.2.2 ks)))
def rowS (is : Int → Tr → Bool) (c : Int) (t : Tr) (r : Row) : Bool := match t with
  | .nil => false
  | .node k n nm mk ks => decide (r.1 = c) && (decide (r.2.1 = k) && bodyS is n nm mk ks r)
def isF : Nat → Int → Tr → Bool
  | 0, _, _ => false
  | m + 1, c, t => rows5.any (rowS (isF m) c t)
/-- Is a tree of a category? -/
def isT (c : Int) (t : Tr) : Bool := isF t.w c t
end Go.Proofs.YtnogkihchgnbcaaGreatDoor

/- Shapes, part 2: the document's answer is the table's. -/
namespace Go.Proofs.YtnogkihchgnbcaaGreatDoor
open Go Go.Am Go.Sx

end Go.Proofs.YtnogkihchgnbcaaGreatDoor

/- Shapes, part 3: the program's types and expressions are the table's. -/
namespace Go.Proofs.YtnogkihchgnbcaaGreatDoor
open Go Go.Am Go.Sx

theorem between {n : Int} : (decide (0 ≤ n) && decide (n ≤ 0)) = decide (n = 0) := by
  by_cases h : n = 0
  · simp [h]
  · rw [decide_eq_false h]
    by_cases h' : 0 ≤ n
    · rw [decide_eq_false (show ¬ n ≤ 0 by omega), Bool.and_false]
    · rw [decide_eq_false h', Bool.false_and]
end Go.Proofs.YtnogkihchgnbcaaGreatDoor

/- Shapes, part 5b: a look at a tree as a type, by both; opened trees. -/
namespace Go.Proofs.YtnogkihchgnbcaaGreatDoor
open Go Go.Am Go.Sx

/-- A tree that is not too large, and is good if it is whole. -/
def Fine (t : Tr) : Prop := t.w ≤ 1099511627776 ∧ (fullT t = true → Good t)
/-- the answer of a look at a tree as of a category -/
def chk (c : Int) (t : Tr) : Int := if (packT t).2 = 0 then (if 60 < deepT t then 7 else if isT c t = true then 0 else 16) else (packT t).2

end Go.Proofs.YtnogkihchgnbcaaGreatDoor

/- Texts in signs; lists of one or two kids. -/
namespace Go.Proofs.YtnogkihchgnbcaaGreatDoor
open Go Go.Am Go.Sx
/-- in signs, if it must be -/
def par (b : Bool) (s : List UInt8) : List UInt8 := if b = true then [40, 32] ++ s ++ [32, 41] else s
end Go.Proofs.YtnogkihchgnbcaaGreatDoor

