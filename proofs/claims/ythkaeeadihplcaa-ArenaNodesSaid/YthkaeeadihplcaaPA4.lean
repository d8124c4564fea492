/- Plain facts of layer 4 (arena), part 4: opening: the program's way and the document's come to one tree. -/
import Derived.Test.YthkaeeadihplcaaPA3
namespace Go.Proofs.Ythkaeeadihplcaa
open Go Go.Am

def allK (l : List S_Cell) : List Int := l.flatMap S_Cell.fKids
theorem allK_append (l m : List S_Cell) : allK (l ++ m) = allK l ++ allK m := by simp [allK]
theorem allK_one (c : S_Cell) : allK [c] = c.fKids := by simp [allK]
theorem allK_take {p : List S_Cell} {i : Nat} (h : i < p.length) : allK (p.take (i + 1)) = allK (p.take i) ++ p[i].fKids := by
  rw [take_get' h, allK_append, allK_one]

def stepN (acc : List Tr) (c : S_Cell) : List Tr := acc ++ [.node c.fKind c.fN c.fName c.fMark (c.fKids.map fun k => acc.getD k.toNat .nil)]
def nodesL (l : List S_Cell) : List Tr := l.foldl stepN []
theorem foldN : ∀ (l : List S_Cell) (acc : List Tr), ∃ r, l.foldl stepN acc = acc ++ r ∧ r.length = l.length
  | [], acc => ⟨[], by simp, rfl⟩
  | c :: l, acc => by
    obtain ⟨r, h1, h2⟩ := foldN l (stepN acc c)
    refine ⟨.node c.fKind c.fN c.fName c.fMark (c.fKids.map fun k => acc.getD k.toNat .nil) :: r, ?_, by simp [h2]⟩
    rw [List.foldl_cons, h1, stepN]; simp
theorem nodesL_len (l : List S_Cell) : (nodesL l).length = l.length := by
  obtain ⟨r, h1, h2⟩ := foldN l []
  rw [nodesL, h1]; simpa using h2
theorem nodesL_pre (l m : List S_Cell) : ∃ r, nodesL (l ++ m) = nodesL l ++ r := by
  obtain ⟨r, h1, _⟩ := foldN m (nodesL l)
  exact ⟨r, by rw [nodesL, List.foldl_append]; exact h1⟩
theorem nodesL_snoc (l : List S_Cell) (c : S_Cell) : nodesL (l ++ [c]) = stepN (nodesL l) c := by simp [nodesL]
theorem nodesL_take {p : List S_Cell} {i : Nat} (h : i < p.length) : nodesL (p.take (i + 1)) = nodesL (p.take i) ++ [.node p[i].fKind p[i].fN p[i].fName p[i].fMark (p[i].fKids.map fun k => (nodesL (p.take i)).getD k.toNat .nil)] := by
  rw [take_get' h, nodesL_snoc, stepN]
theorem nodesL_getD {p : List S_Cell} {i j : Nat} (hj : j < i) (hi : i ≤ p.length) : (nodesL (p.take i)).getD j .nil = (nodesL p).getD j .nil := by
  obtain ⟨r, hr⟩ := nodesL_pre (p.take i) (p.drop i)
  rw [List.take_append_drop] at hr
  have hl := nodesL_len (p.take i)
  rw [List.length_take] at hl
  rw [hr, List.getD_eq_getElem?_getD, List.getD_eq_getElem?_getD, List.getElem?_append_left (by omega)]
theorem nodesL_at {p : List S_Cell} {i : Nat} (h : i < p.length) : (nodesL p).getD i .nil = .node p[i].fKind p[i].fN p[i].fName p[i].fMark (p[i].fKids.map fun k => (nodesL (p.take i)).getD k.toNat .nil) := by
  have hl := nodesL_len (p.take i)
  rw [List.length_take] at hl
  rw [← nodesL_getD (i := i + 1) (by omega) (by omega), nodesL_take h, List.getD_eq_getElem?_getD, List.getElem?_append_right (by omega)]
  rw [show i - (nodesL (p.take i)).length = 0 by omega]
  rfl

/-- Kids stand ahead of what they lie in. -/
def Valid (p : List S_Cell) (n : Nat) : Prop := ∀ (i : Nat) (h : i < p.length), i < n → ∀ k ∈ p[i].fKids, 0 ≤ k ∧ k < i

open Classical in
/-- What cells are opened to. -/
noncomputable def openT (p : List S_Cell) : Tr × Int :=
  if p.length = 0 then (.nil, 1) else if 8192 < p.length then (.nil, 3)
  else if Valid p p.length ∧ ∀ j : Nat, j + 1 < p.length → (allK p).count (j : Int) = 1 then ((nodesL p).getD (p.length - 1) .nil, 0) else (.nil, 16)

theorem openT_form {p : List S_Cell} (h0 : p.length ≠ 0) (h1 : p.length ≤ 8192) (hn : ¬ (Valid p p.length ∧ ∀ j : Nat, j + 1 < p.length → (allK p).count (j : Int) = 1)) : openT p = (.nil, 16) := by
  unfold openT; rw [if_neg h0, if_neg (by omega), if_neg hn]
theorem openT_good {p : List S_Cell} (h0 : p.length ≠ 0) (h1 : p.length ≤ 8192) (hn : Valid p p.length ∧ ∀ j : Nat, j + 1 < p.length → (allK p).count (j : Int) = 1) : openT p = ((nodesL p).getD (p.length - 1) .nil, 0) := by
  unfold openT; rw [if_neg h0, if_neg (by omega), if_pos hn]
theorem openT_bad {p : List S_Cell} (h1 : p.length ≤ 8192) {i : Nat} (hi : i < p.length) {k : Int} (hk : k ∈ p[i].fKids) (hb : ¬ (0 ≤ k ∧ k < i)) : openT p = (.nil, 16) :=
  openT_form (by omega) h1 fun h => hb (h.1 i hi hi k hk)

/-- how often each place was named -/
def cntOf (n : Nat) (seen : List Int) : List Int := (List.range n).map fun j : Nat => ((seen.count (j : Int) : Nat) : Int)
theorem cntOf_len (n : Nat) (s : List Int) : (cntOf n s).length = n := by simp [cntOf]
theorem cntOf_get {n : Nat} {s : List Int} {k : Int} (h0 : 0 ≤ k) (h : k < n) : getI (cntOf n s) k = some ((s.count k : Nat) : Int) := by
  unfold getI cntOf
  rw [if_pos h0, List.getElem?_map, List.getElem?_range (by omega)]
  simp [Int.toNat_of_nonneg h0]
theorem cntOf_set {n : Nat} {s : List Int} {k : Int} (h0 : 0 ≤ k) : (cntOf n s).set k.toNat ((s.count k : Nat) + 1 : Int) = cntOf n (s ++ [k]) := by
  apply List.ext_getElem?
  intro j
  unfold cntOf
  rw [List.getElem?_set]
  simp only [List.length_map, List.length_range, List.getElem?_map]
  by_cases e : k.toNat = j
  · subst e
    by_cases hl : k.toNat < n
    · rw [if_pos rfl, if_pos hl, List.getElem?_range hl]
      simp [Int.toNat_of_nonneg h0, List.count_append]
    · rw [if_pos rfl, if_neg hl, List.getElem?_eq_none (by simp; omega)]; rfl
  · rw [if_neg e]
    by_cases hl : j < n
    · rw [List.getElem?_range hl]
      simp only [Option.map_some, List.count_append]
      rw [List.count_cons, List.count_nil, if_neg (by simp; omega)]
      simp
    · rw [List.getElem?_eq_none (by simp; omega)]; rfl

theorem take_kids {l : List Int} {j : Nat} (h : j < l.length) (s : List Int) : s ++ l.take (j + 1) = (s ++ l.take j) ++ [l[j]] := by
  rw [take_get' h, List.append_assoc]

theorem allK_len {p : List S_Cell} (hk : ∀ c ∈ p, c.fKids.length ≤ 1048576) (i : Nat) : (allK (p.take i)).length ≤ 1048576 * i := by
  have gen : ∀ (c : Nat), (∀ x ∈ p, x.fKids.length ≤ c) → ∀ i, (allK (p.take i)).length ≤ c * i := by
    intro c hc i
    induction i with
    | zero => simp [allK]
    | succ i ih =>
      rw [Nat.mul_succ]
      by_cases h : i < p.length
      · rw [allK_take h, List.length_append]
        have := hc _ (List.getElem_mem h)
        omega
      · rw [List.take_of_length_le (by omega)] at ih ⊢
        omega
  exact gen _ hk i

theorem ev_grow {p : List S_Cell} (hk : ∀ c ∈ p, c.fKids.length ≤ 1048576) (hv : Valid p p.length) : ∀ (n i : Nat), i < n → i < p.length → Ev (fun K => ref04_grow K p (i : Int)) ((nodesL p).getD i .nil) := by
  intro n
  induction n with
  | zero => intro i h; omega
  | succ n ih =>
    intro i hi hl
    refine Ev.step (fun k => by rw [ref04_grow]) (Ev.opt (getI_lt hl) ?_)
    have hkk := hk _ (List.getElem_mem hl)
    have loop : ∀ (m j : Nat), p[i].fKids.length = j + m → Ev (fun K => ref04_grow_l0 K p p[i] (j : Int) ((p[i].fKids.take j).map fun k => (nodesL (p.take i)).getD k.toNat .nil)) ((nodesL p).getD i .nil) := by
      intro m
      induction m with
      | zero =>
        intro j hj
        refine Ev.step (fun k => by rw [ref04_grow_l0]) ?_
        refine Ev.iteF (dec_f (by omega)) (Ev.pure' ?_)
        rw [List.take_of_length_le (l := p[i].fKids) (by omega), nodesL_at hl]
      | succ m ihm =>
        intro j hj
        have hjl : j < p[i].fKids.length := by omega
        obtain ⟨q0, q1⟩ := hv i hl hl _ (List.getElem_mem hjl)
        refine Ev.step (fun k => by rw [ref04_grow_l0]) ?_
        refine Ev.iteT (dec_t (by omega)) (Ev.opt (getI_lt hjl) ?_)
        have := ih p[i].fKids[j].toNat (by omega) (by omega)
        rw [Int.toNat_of_nonneg q0] at this
        refine Ev.bind this (Ev.opt (appL_ok (by simp; omega)) ?_)
        rw [wrap_nat (by omega)]
        have := ihm (j + 1) (by omega)
        rw [take_get' hjl, List.map_append, List.map_cons, List.map_nil, nodesL_getD (by omega) (by omega)] at this
        exact this
    simpa using loop p[i].fKids.length 0 (by omega)

section
variable {p : List S_Cell} (h0 : p.length ≠ 0) (h1 : p.length ≤ 8192) (hk : ∀ c ∈ p, c.fKids.length ≤ 1048576)
include h0 h1 hk

theorem ev_ropen_l2 (hv : Valid p p.length) : ∀ (m j : Nat), p.length = j + 1 + m → (∀ j', j' < j → (allK p).count (j' : Int) = 1) → Ev (fun K => ref04_Open_l2 K p (cntOf p.length (allK p)) (j : Int)) (openT p) := by
  intro m
  induction m with
  | zero =>
    intro j hj hc
    refine Ev.step (fun k => by rw [ref04_Open_l2]) ?_
    rw [wrap_id (by omega) (by omega)]
    refine Ev.iteF (dec_f (by omega)) ?_
    rw [openT_good h0 h1 ⟨hv, fun j' hj' => hc j' (by omega)⟩, show (p.length : Int) - 1 = ((p.length - 1 : Nat) : Int) by omega]
    exact Ev.bind (ev_grow hk hv p.length _ (by omega) (by omega)) Ev.pure
  | succ m ih =>
    intro j hj hc
    refine Ev.step (fun k => by rw [ref04_Open_l2]) ?_
    rw [wrap_id (x := (p.length : Int) - 1) (by omega) (by omega)]
    refine Ev.iteT (dec_t (by omega)) (Ev.opt (cntOf_get (by omega) (by omega)) ?_)
    by_cases e : (allK p).count (j : Int) = 1
    · rw [wrap_nat (by omega)]
      exact Ev.iteF (ndec_f (by omega)) (ih (j + 1) (by omega) fun j' hj' => by
        by_cases e' : j' = j
        · rw [e']; exact e
        · exact hc j' (by omega))
    · exact Ev.iteT (ndec_t (by omega)) (Ev.pure' (openT_form h0 h1 fun h => e (h.2 j (by omega))).symm)

theorem ev_ropen_l0 : ∀ (m i : Nat), p.length = i + m → Valid p i → Ev (fun K => ref04_Open_l0 K p (i : Int) (cntOf p.length (allK (p.take i)))) (openT p) := by
  intro m
  induction m with
  | zero =>
    intro i hi hv
    refine Ev.step (fun k => by rw [ref04_Open_l0]) ?_
    refine Ev.iteF (dec_f (by omega)) ?_
    have e : i = p.length := by omega
    subst e
    rw [List.take_length]
    exact ev_ropen_l2 h0 h1 hk hv (p.length - 1) 0 (by omega) fun j' hj' => by omega
  | succ m ih =>
    intro i hi hv
    have hl : i < p.length := by omega
    have hkk := hk _ (List.getElem_mem hl)
    have hal := allK_len hk i
    refine Ev.step (fun k => by rw [ref04_Open_l0]) (Ev.iteT (dec_t (by omega)) ?_)
    have loop : ∀ (m' j : Nat), p[i].fKids.length = j + m' → (∀ k ∈ p[i].fKids.take j, 0 ≤ k ∧ k < i) → Ev (fun K => ref04_Open_l1 K p (i : Int) (j : Int) (cntOf p.length (allK (p.take i) ++ p[i].fKids.take j))) (openT p) := by
      intro m'
      induction m' with
      | zero =>
        intro j hj hg
        refine Ev.step (fun k => by rw [ref04_Open_l1]) (Ev.opt (getI_lt hl) ?_)
        refine Ev.iteF (dec_f (by omega)) ?_
        rw [wrap_nat (by omega), List.take_of_length_le (l := p[i].fKids) (by omega), ← allK_take hl]
        rw [List.take_of_length_le (l := p[i].fKids) (by omega)] at hg
        refine ih (i + 1) (by omega) fun i' h' hlt k hk' => ?_
        by_cases e : i' = i
        · subst e; exact hg k hk'
        · exact hv i' h' (by omega) k hk'
      | succ m' ihm =>
        intro j hj hg
        have hjl : j < p[i].fKids.length := by omega
        refine Ev.step (fun k => by rw [ref04_Open_l1]) (Ev.opt (getI_lt hl) ?_)
        refine Ev.iteT (dec_t (by omega)) (Ev.opt (getI_lt hl) (Ev.opt (getI_lt hjl) ?_))
        refine Ev.ite (fun e => Ev.pure' (openT_bad h1 hl (List.getElem_mem hjl) (by simp only [decide_eq_true_eq] at e; omega)).symm) fun e => ?_
        refine Ev.ite (fun e2 => Ev.pure' (openT_bad h1 hl (List.getElem_mem hjl) (by simp only [decide_eq_true_eq] at e2; omega)).symm) fun e2 => ?_
        simp only [decide_eq_true_eq] at e e2
        have hcl : (allK (p.take i) ++ p[i].fKids.take j).count p[i].fKids[j] ≤ 8192 * 1048576 := by
          refine Nat.le_trans List.count_le_length ?_
          rw [List.length_append, List.length_take]
          omega
        refine Ev.opt (cntOf_get (by omega) (by omega)) (Ev.opt (cntOf_get (by omega) (by omega)) ?_)
        rw [wrap_nat (by omega), wrap_nat (by omega)]
        rw [show (((allK (p.take i) ++ p[i].fKids.take j).count p[i].fKids[j] + 1 : Nat) : Int) = (((allK (p.take i) ++ p[i].fKids.take j).count p[i].fKids[j] : Nat) : Int) + 1 by omega, cntOf_set (by omega), ← take_kids hjl]
        refine ihm (j + 1) (by omega) fun k hk' => ?_
        rw [take_get' hjl] at hk'
        rcases List.mem_append.1 hk' with h | h
        · exact hg k h
        · rw [List.mem_singleton.1 h]; omega
    have := loop p[i].fKids.length 0 (by omega) (by simp)
    simpa using this
end

theorem ev_ropen {p : List S_Cell} (hk : ∀ c ∈ p, c.fKids.length ≤ 1048576) : Ev (fun K => ref04_Open K p) (openT p) := by
  unfold ref04_Open
  by_cases h0 : p.length = 0
  · refine Ev.iteT (dec_t (by omega)) (Ev.pure' ?_)
    unfold openT; rw [if_pos h0]
  refine Ev.iteF (dec_f (by omega)) ?_
  by_cases h1 : 8192 < p.length
  · refine Ev.iteT (dec_t (by omega)) (Ev.pure' ?_)
    unfold openT; rw [if_neg h0, if_pos h1]
  refine Ev.iteF (dec_f (by omega)) (Ev.opt (mkL_ok (by omega)) ?_)
  have := ev_ropen_l0 h0 (by omega) hk p.length 0 (by omega) fun i _ hi => by omega
  have e : cntOf p.length (allK (p.take 0)) = List.replicate p.length 0 := by
    apply List.ext_getElem
    · simp [cntOf]
    · intro j h1 h2; simp [cntOf, allK]
  rw [e] at this
  exact this
end Go.Proofs.Ythkaeeadihplcaa
