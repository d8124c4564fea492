/- Plain facts of layer 4 (arena), part 6: the program's way to open. -/
import Derived.Test.YthkaeeadihplcaaPA5
namespace Go.Proofs.Ythkaeeadihplcaa
open Go Go.Am

/-- which places were named -/
def usedOf (n : Nat) (seen : List Int) : List Bool := (List.range n).map fun j : Nat => decide ((j : Int) ∈ seen)
theorem usedOf_len (n : Nat) (s : List Int) : (usedOf n s).length = n := by simp [usedOf]
theorem usedOf_get {n : Nat} {s : List Int} {k : Int} (h0 : 0 ≤ k) (h : k < n) : getI (usedOf n s) k = some (decide (k ∈ s)) := by
  unfold getI usedOf
  rw [if_pos h0, List.getElem?_map, List.getElem?_range (by omega)]
  simp [Int.toNat_of_nonneg h0]
theorem usedOf_set {n : Nat} {s : List Int} {k : Int} (h0 : 0 ≤ k) : (usedOf n s).set k.toNat true = usedOf n (s ++ [k]) := by
  apply List.ext_getElem?
  intro j
  unfold usedOf
  rw [List.getElem?_set]
  simp only [List.length_map, List.length_range, List.getElem?_map]
  by_cases e : k.toNat = j
  · subst e
    by_cases hl : k.toNat < n
    · rw [if_pos rfl, if_pos hl, List.getElem?_range hl]
      simp [Int.toNat_of_nonneg h0]
    · rw [if_pos rfl, if_neg hl, List.getElem?_eq_none (by simp; omega)]; rfl
  · rw [if_neg e]
    by_cases hl : j < n
    · rw [List.getElem?_range hl]
      have hne : ¬ (j : Int) = k := by omega
      simp [List.mem_append, hne]
    · rw [List.getElem?_eq_none (by simp; omega)]; rfl

def nodesAt (p : List S_Cell) (i : Nat) : List Tr := nodesL (p.take i) ++ List.replicate (p.length - i) .nil
theorem nodesAt_len {p : List S_Cell} {i : Nat} (h : i ≤ p.length) : (nodesAt p i).length = p.length := by
  have := nodesL_len (p.take i)
  rw [List.length_take] at this
  simp [nodesAt]; omega
theorem nodesAt_get {p : List S_Cell} {i : Nat} {k : Int} (h0 : 0 ≤ k) (hk : k < i) (h : i ≤ p.length) : getI (nodesAt p i) k = some ((nodesL (p.take i)).getD k.toNat .nil) := by
  have := nodesL_len (p.take i)
  rw [List.length_take] at this
  unfold getI nodesAt
  rw [if_pos h0, List.getElem?_append_left (by omega), List.getD_eq_getElem?_getD, List.getElem?_eq_getElem (by omega)]
  rfl
theorem nodesAt_set {p : List S_Cell} {i : Nat} (h : i < p.length) :
    (nodesAt p i).set i (.node p[i].fKind p[i].fN p[i].fName p[i].fMark (p[i].fKids.map fun k => (nodesL (p.take i)).getD k.toNat .nil)) = nodesAt p (i + 1) := by
  have hl := nodesL_len (p.take i)
  rw [List.length_take] at hl
  unfold nodesAt
  rw [nodesL_take h, List.set_append, if_neg (by omega), show i - (nodesL (p.take i)).length = 0 by omega, show p.length - i = (p.length - (i + 1)) + 1 by omega, List.replicate_succ, List.set_cons_zero]
  simp

theorem ev_index_bool {l : List Bool} (hl : l.length ≤ 1099511627776) : ∀ (m i : Nat), l.length = i + m → ∃ r : Int, Ev (fun K => slices_Index_l0 K l false (i : Int)) r ∧ (0 ≤ r ↔ false ∈ l.drop i) := by
  intro m
  induction m with
  | zero =>
    intro i hi
    refine ⟨-1, Ev.step (fun k => by rw [slices_Index_l0]) (Ev.iteF (dec_f (by omega)) Ev.pure), ?_⟩
    rw [List.drop_of_length_le (by omega)]; simp
  | succ m ih =>
    intro i hi
    have hlt : i < l.length := by omega
    rw [drop_get hlt]
    cases hb : l[i] with
    | false =>
      refine ⟨i, Ev.step (fun k => by rw [slices_Index_l0]) (Ev.iteT (dec_t (by omega)) (Ev.opt (getI_lt hlt) ?_)), by simp⟩
      rw [hb]
      exact Ev.iteT rfl Ev.pure
    | true =>
      obtain ⟨r, h1, h2⟩ := ih (i + 1) (by omega)
      refine ⟨r, Ev.step (fun k => by rw [slices_Index_l0]) (Ev.iteT (dec_t (by omega)) (Ev.opt (getI_lt hlt) ?_)), by rw [h2]; simp⟩
      rw [hb, wrap_nat (by omega)]
      exact Ev.iteF (by simp) h1

theorem ev_contains {l : List Bool} (hl : l.length ≤ 1099511627776) : Ev (fun K => slices_Contains K l false) (eqB (false ∈ l) True) := by
  obtain ⟨r, h1, h2⟩ := ev_index_bool hl l.length 0 (by omega)
  unfold slices_Contains slices_Index
  refine Ev.bind h1 (Ev.pure' ?_)
  rw [List.drop_zero] at h2
  by_cases h : false ∈ l
  · rw [dec_t (h2.2 h), eqB_t (by simp [h])]
  · rw [eqB_f (by simp [h])]
    exact decide_eq_false fun hr => h (h2.1 hr)

theorem openT_twice {p : List S_Cell} (h0 : p.length ≠ 0) (h1 : p.length ≤ 8192) {i j : Nat} (hi : i < p.length) (hj : j < p[i].fKids.length) (hb : 0 ≤ p[i].fKids[j] ∧ p[i].fKids[j] < i) (hm : p[i].fKids[j] ∈ allK (p.take i) ++ p[i].fKids.take j) : openT p = (.nil, 16) := by
  refine openT_form h0 h1 fun h => ?_
  have hc := h.2 p[i].fKids[j].toNat (by omega)
  rw [Int.toNat_of_nonneg hb.1] at hc
  have e : allK p = (allK (p.take i) ++ p[i].fKids.take j) ++ p[i].fKids[j] :: (p[i].fKids.drop (j + 1) ++ allK (p.drop (i + 1))) := by
    have e1 : allK p = allK (p.take (i + 1)) ++ allK (p.drop (i + 1)) := by rw [← allK_append, List.take_append_drop]
    have e2 : p[i].fKids = p[i].fKids.take j ++ p[i].fKids[j] :: p[i].fKids.drop (j + 1) := by rw [← drop_get hj, List.take_append_drop]
    rw [e1, allK_take hi, List.append_assoc, List.append_assoc]
    congr 1
    rw [← List.cons_append, ← List.append_assoc, ← e2]
  rw [e, List.count_append, List.count_cons, if_pos (by simp)] at hc
  have := List.count_pos_iff.2 hm
  omega

section
variable {p : List S_Cell} (h0 : p.length ≠ 0) (h1 : p.length ≤ 8192) (hk : ∀ c ∈ p, c.fKids.length ≤ 1048576)
include h0 h1 hk

theorem ev_open_l0 : ∀ (m i : Nat), p.length = i + m → Valid p i → (allK (p.take i)).Nodup → Ev (fun K => arena_Open_l0 K p (i : Int) (usedOf p.length (allK (p.take i))) (nodesAt p i)) (openT p) := by
  intro m
  induction m with
  | zero =>
    intro i hi hv hn
    refine Ev.step (fun k => by rw [arena_Open_l0]) ?_
    refine Ev.iteF (dec_f (by omega)) ?_
    have e : i = p.length := by omega
    subst e
    rw [List.take_length] at hn ⊢
    rw [wrap_id (by omega) (by omega), show (p.length : Int) - 1 = ((p.length - 1 : Nat) : Int) by omega]
    refine Ev.opt (subL_ok (a := 0) (by omega) (by rw [usedOf_len]; omega)) ?_
    refine Ev.bind (ev_contains (by simp [usedOf_len]; omega)) ?_
    have hmem : (false ∈ ((usedOf p.length (allK p)).take (p.length - 1)).drop 0) ↔ ∃ j : Nat, j + 1 < p.length ∧ (j : Int) ∉ allK p := by
      rw [List.drop_zero, usedOf, ← List.map_take, List.take_range, Nat.min_eq_left (by omega)]
      simp only [List.mem_map, List.mem_range, decide_eq_false_iff_not]
      exact ⟨fun ⟨j, h1, h2⟩ => ⟨j, by omega, h2⟩, fun ⟨j, h1, h2⟩ => ⟨j, by omega, h2⟩⟩
    by_cases hx : ∃ j : Nat, j + 1 < p.length ∧ (j : Int) ∉ allK p
    · refine Ev.iteT (eqB_t (eq_true (hmem.2 hx))) (Ev.pure' ?_)
      obtain ⟨j, h2, h3⟩ := hx
      refine (openT_form h0 h1 fun h => ?_).symm
      have := h.2 j h2
      rw [List.count_eq_zero.2 h3] at this
      omega
    · refine Ev.iteF (by rw [eqB_f (fun h => hx (hmem.1 (of_eq_true h)))]; simp) ?_
      rw [openT_good h0 h1 ⟨hv, fun j hj => ?_⟩]
      · refine Ev.opt (nodesAt_get (by omega) (by omega) (Nat.le_refl _)) (Ev.pure' ?_)
        rw [List.take_length]
        rfl
      · have hm : (j : Int) ∈ allK p := by
          by_cases hm : (j : Int) ∈ allK p
          · exact hm
          · exact absurd ⟨j, hj, hm⟩ hx
        have := List.count_pos_iff.2 hm
        have := List.nodup_iff_count.1 hn (j : Int)
        omega
  | succ m ih =>
    intro i hi hv hn
    have hl : i < p.length := by omega
    have hkk := hk _ (List.getElem_mem hl)
    refine Ev.step (fun k => by rw [arena_Open_l0]) (Ev.iteT (dec_t (by omega)) (Ev.opt (getI_lt hl) ?_))
    have loop : ∀ (m' j : Nat), p[i].fKids.length = j + m' → (∀ k ∈ p[i].fKids.take j, 0 ≤ k ∧ k < i) → (allK (p.take i) ++ p[i].fKids.take j).Nodup →
        Ev (fun K => arena_Open_l1 K p (i : Int) (nodesAt p i) p[i] (j : Int) ((p[i].fKids.take j).map fun k => (nodesL (p.take i)).getD k.toNat .nil) (usedOf p.length (allK (p.take i) ++ p[i].fKids.take j))) (openT p) := by
      intro m'
      induction m' with
      | zero =>
        intro j hj hg hnn
        refine Ev.step (fun k => by rw [arena_Open_l1]) (Ev.iteF (dec_f (by omega)) ?_)
        rw [List.take_of_length_le (l := p[i].fKids) (by omega)] at hg hnn ⊢
        refine Ev.opt (getI_lt (by rw [nodesAt_len (by omega)]; omega)) ?_
        rw [wrap_nat (by omega), Int.toNat_natCast, nodesAt_set hl]
        rw [← allK_take hl] at hnn ⊢
        refine ih (i + 1) (by omega) (fun i' h' hlt k hk' => ?_) hnn
        by_cases e : i' = i
        · subst e; exact hg k hk'
        · exact hv i' h' (by omega) k hk'
      | succ m' ihm =>
        intro j hj hg hnn
        have hjl : j < p[i].fKids.length := by omega
        refine Ev.step (fun k => by rw [arena_Open_l1]) (Ev.iteT (dec_t (by omega)) (Ev.opt (getI_lt hjl) ?_))
        refine Ev.ite (fun e => Ev.pure' (openT_bad h1 hl (List.getElem_mem hjl) (by simp only [decide_eq_true_eq] at e; omega)).symm) fun e => ?_
        refine Ev.ite (fun e2 => Ev.pure' (openT_bad h1 hl (List.getElem_mem hjl) (by simp only [decide_eq_true_eq] at e2; omega)).symm) fun e2 => ?_
        simp only [decide_eq_true_eq] at e e2
        refine Ev.opt (usedOf_get (by omega) (by omega)) ?_
        refine Ev.ite (fun e3 => Ev.pure' (openT_twice h0 h1 hl hjl ⟨by omega, by omega⟩ (of_decide_eq_true e3)).symm) fun e3 => ?_
        simp only [decide_eq_true_eq] at e3
        refine Ev.opt (usedOf_get (by omega) (by omega)) (Ev.opt (nodesAt_get (by omega) (by omega) (by omega)) (Ev.opt (appL_ok (by simp; omega)) ?_))
        rw [wrap_nat (by omega), usedOf_set (by omega), ← take_kids hjl]
        have := ihm (j + 1) (by omega) (fun k hk' => ?_) ?_
        · rw [take_get' hjl, List.map_append, List.map_cons, List.map_nil] at this
          rw [take_get' hjl]
          exact this
        · rw [take_get' hjl] at hk'
          rcases List.mem_append.1 hk' with h | h
          · exact hg k h
          · rw [List.mem_singleton.1 h]; omega
        · rw [take_kids hjl, List.nodup_append]
          refine ⟨hnn, by simp, fun a ha b hb => ?_⟩
          rw [List.mem_singleton.1 hb]
          exact fun e => e3 (e ▸ ha)
    have := loop p[i].fKids.length 0 (by omega) (by simp) (by simpa using hn)
    simpa using this
end

theorem ev_open {p : List S_Cell} (hk : ∀ c ∈ p, c.fKids.length ≤ 1048576) : Ev (fun K => arena_Open K p) (openT p) := by
  unfold arena_Open
  by_cases h0 : p.length = 0
  · refine Ev.iteT (dec_t (by omega)) (Ev.pure' ?_)
    unfold openT; rw [if_pos h0]
  refine Ev.iteF (dec_f (by omega)) ?_
  by_cases h1 : 8192 < p.length
  · refine Ev.iteT (dec_t (by omega)) (Ev.pure' ?_)
    unfold openT; rw [if_neg h0, if_pos h1]
  refine Ev.iteF (dec_f (by omega)) (Ev.opt (mkL_ok (by omega)) (Ev.opt (mkL_ok (by omega)) ?_))
  have := ev_open_l0 h0 (by omega) hk p.length 0 (by omega) (fun i _ hi => by omega) (by simp [allK])
  have e : usedOf p.length (allK (p.take 0)) = List.replicate p.length false := by
    apply List.ext_getElem
    · simp [usedOf]
    · intro j h1 h2; simp [usedOf, allK]
  rw [e] at this
  have e2 : nodesAt p 0 = List.replicate p.length .nil := by simp [nodesAt, nodesL]
  rw [e2] at this
  exact this
end Go.Proofs.Ythkaeeadihplcaa
