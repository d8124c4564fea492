/- Joined texts: A9, X8, X9, X10. -/
import Derived.Test.YtojooakojnelbaaDoorGq
import Derived.Test.YtojooakojnelbaaDoorGY
import Derived.Test.YtojooakojnelbaaDoorGX
/- Plain facts of trees, part 9: the program's way to open cells. -/
namespace Go.Proofs.YtojooakojnelbaaDoor
open Go Go.Am Go.Sx
/-- which places were named -/
def usedOf (n : Nat) (seen : List Int) : List Bool := (List.range n).map fun j : Nat => decide ((j : Int) ∈ seen)
theorem usedOf_len (n : Nat) (s : List Int) : (usedOf n s).length = n := by simp [usedOf]
theorem usedOf_get {n : Nat} {s : List Int} {k : Int} (h0 : 0 ≤ k) (h : k < n) : getI (usedOf n s) k = some (decide (k ∈ s)) := by
  unfold getI usedOf
  rw [if_pos h0, List.getElem?_map, List.getElem?_range (by omega)]
  simp [Int.toNat_of_nonneg h0]
theorem usedOf_set {n : Nat} {s : List Int} {k : Int} (h0 : 0 ≤ k) : (usedOf n s).set k.toNat true = usedOf n (s ++ [k]) := by
  apply List.ext_getElem?
  intro j
  unfold usedOf
  rw [List.getElem?_set]
  simp only [List.length_map, List.length_range, List.getElem?_map]
  by_cases e : k.toNat = j
  · subst e
    by_cases hl : k.toNat < n
    · rw [if_pos rfl, if_pos hl, List.getElem?_range hl]
      simp [Int.toNat_of_nonneg h0]
    · rw [if_pos rfl, if_neg hl, List.getElem?_eq_none (by simp; omega)]; rfl
  · rw [if_neg e]
    by_cases hl : j < n
    · rw [List.getElem?_range hl]
      have hne : ¬ (j : Int) = k := by omega
      simp [List.mem_append, hne]
    · rw [List.getElem?_eq_none (by simp; omega)]; rfl

def nodesAt (p : List Cell) (i : Nat) : List Tr := nodesL (p.take i) ++ List.replicate (p.length - i) .nil
theorem nodesAt_len {p : List Cell} {i : Nat} (h : i ≤ p.length) : (nodesAt p i).length = p.length := by
  have := nodesL_len (p.take i)
  rw [List.length_take] at this
  simp [nodesAt]; omega
theorem nodesAt_get {p : List Cell} {i : Nat} {k : Int} (h0 : 0 ≤ k) (hk : k < i) (h : i ≤ p.length) : getI (nodesAt p i) k = some ((nodesL (p.take i)).getD k.toNat .nil) := by
  have := nodesL_len (p.take i)
  rw [List.length_take] at this
  unfold getI nodesAt
  rw [if_pos h0, List.getElem?_append_left (by omega), List.getD_eq_getElem?_getD, List.getElem?_eq_getElem (by omega)]
  rfl
theorem nodesAt_set {p : List Cell} {i : Nat} (h : i < p.length) :
    (nodesAt p i).set i (.node p[i].1 p[i].2.1 p[i].2.2.1 p[i].2.2.2.1 (p[i].2.2.2.2.map fun k => (nodesL (p.take i)).getD k.toNat .nil)) = nodesAt p (i + 1) := by
  have hl := nodesL_len (p.take i)
  rw [List.length_take] at hl
  unfold nodesAt
  rw [nodesL_take h, List.set_append, if_neg (by omega), show i - (nodesL (p.take i)).length = 0 by omega, show p.length - i = (p.length - (i + 1)) + 1 by omega, List.replicate_succ, List.set_cons_zero]
  simp

theorem ev_index_bool {l : List Bool} (hl : l.length ≤ 1099511627776) : ∀ (m i : Nat), l.length = i + m → ∃ r : Int, Ev (fun K => slices_Index_2_l0 K l false (i : Int)) r ∧ (0 ≤ r ↔ false ∈ l.drop i) := by
  intro m
  induction m with
  | zero =>
    intro i hi
    refine ⟨-1, Ev.step (fun k => by rw [slices_Index_2_l0]) (Ev.dF (by omega) Ev.pure), ?_⟩
    rw [List.drop_of_length_le (by omega)]; simp
  | succ m ih =>
    intro i hi
    have hlt : i < l.length := by omega
    rw [drop_get hlt]
    cases hb : l[i] with
    | false =>
      refine ⟨i, Ev.step (fun k => by rw [slices_Index_2_l0]) (Ev.dT (by omega) (Ev.opt (getI_lt hlt) ?_)), by simp⟩
      rw [hb]
      exact Ev.isT rfl Ev.pure
    | true =>
      obtain ⟨r, h1, h2⟩ := ih (i + 1) (by omega)
      refine ⟨r, Ev.step (fun k => by rw [slices_Index_2_l0]) (Ev.dT (by omega) (Ev.opt (getI_lt hlt) ?_)), by rw [h2]; simp⟩
      rw [hb, wrap_nat (by omega)]
      exact Ev.isF rfl h1

theorem ev_contains2 {l : List Bool} (hl : l.length ≤ 1099511627776) : Ev (fun K => slices_Contains_2 K l false) (eqB (false ∈ l) True) := by
  obtain ⟨r, h1, h2⟩ := ev_index_bool hl l.length 0 (by omega)
  unfold slices_Contains_2 slices_Index_2
  refine Ev.bind h1 (Ev.pure' ?_)
  rw [List.drop_zero] at h2
  by_cases h : false ∈ l
  · rw [dec_t (h2.2 h), eqB_t (by simp [h])]
  · rw [eqB_f (by simp [h])]
    exact decide_eq_false fun hr => h (h2.1 hr)

theorem openT_twice {p : List Cell} (h0 : p.length ≠ 0) (h1 : p.length ≤ 8192) {i j : Nat} (hi : i < p.length) (hj : j < p[i].2.2.2.2.length) (hb : 0 ≤ p[i].2.2.2.2[j] ∧ p[i].2.2.2.2[j] < i) (hm : p[i].2.2.2.2[j] ∈ allK (p.take i) ++ p[i].2.2.2.2.take j) : openT p = (.nil, 16) := by
  refine openT_form h0 h1 fun h => ?_
  have hc := h.2 p[i].2.2.2.2[j].toNat (by omega)
  rw [Int.toNat_of_nonneg hb.1] at hc
  have e : allK p = (allK (p.take i) ++ p[i].2.2.2.2.take j) ++ p[i].2.2.2.2[j] :: (p[i].2.2.2.2.drop (j + 1) ++ allK (p.drop (i + 1))) := by
    have e1 : allK p = allK (p.take (i + 1)) ++ allK (p.drop (i + 1)) := by rw [← allK_append, List.take_append_drop]
    have e2 : p[i].2.2.2.2 = p[i].2.2.2.2.take j ++ p[i].2.2.2.2[j] :: p[i].2.2.2.2.drop (j + 1) := by rw [← drop_get hj, List.take_append_drop]
    rw [e1, allK_take hi, List.append_assoc, List.append_assoc]
    congr 1
    rw [← List.cons_append, ← List.append_assoc, ← e2]
  rw [e, List.count_append, List.count_cons, if_pos (by simp)] at hc
  have := List.count_pos_iff.2 hm
  omega

section
variable {p : List Cell} (h0 : p.length ≠ 0) (h1 : p.length ≤ 8192) (hk : ∀ c ∈ p, c.2.2.2.2.length ≤ 1048576)
include h0 h1 hk

theorem ev_open_l0 : ∀ (m i : Nat), p.length = i + m → Valid p i → (allK (p.take i)).Nodup → Ev (fun K => arena_Open_l0 K p (nodesAt p i) (usedOf p.length (allK (p.take i))) (i : Int)) (openT p) := by
  intro m
  induction m with
  | zero =>
    intro i hi hv hn
    refine Ev.step (fun k => by rw [arena_Open_l0]) ?_
    refine Ev.dF (by omega) ?_
    have e : i = p.length := by omega
    subst e
    rw [List.take_length] at hn ⊢
    rw [wrap_id (by omega) (by omega), show (p.length : Int) - 1 = ((p.length - 1 : Nat) : Int) by omega]
    refine Ev.opt (subL_ok (a := 0) (by omega) (by rw [usedOf_len]; omega)) ?_
    refine Ev.bind (ev_contains2 (by simp [usedOf_len]; omega)) ?_
    have hmem : (false ∈ ((usedOf p.length (allK p)).take (p.length - 1)).drop 0) ↔ ∃ j : Nat, j + 1 < p.length ∧ (j : Int) ∉ allK p := by
      rw [List.drop_zero, usedOf, ← List.map_take, List.take_range, Nat.min_eq_left (by omega)]
      simp only [List.mem_map, List.mem_range, decide_eq_false_iff_not]
      exact ⟨fun ⟨j, h1, h2⟩ => ⟨j, by omega, h2⟩, fun ⟨j, h1, h2⟩ => ⟨j, by omega, h2⟩⟩
    by_cases hx : ∃ j : Nat, j + 1 < p.length ∧ (j : Int) ∉ allK p
    · refine Ev.isT (eqB_t (eq_true (hmem.2 hx))) (Ev.pure' ?_)
      obtain ⟨j, h2, h3⟩ := hx
      refine (openT_form h0 h1 fun h => ?_).symm
      have := h.2 j h2
      rw [List.count_eq_zero.2 h3] at this
      omega
    · refine Ev.isF (eqB_f (fun h => hx (hmem.1 (of_eq_true h)))) ?_
      rw [openT_good h0 h1 ⟨hv, fun j hj => ?_⟩]
      · refine Ev.iteT ⟨by omega, by rw [nodesAt_len (Nat.le_refl _)]; omega⟩ (Ev.opt (nodesAt_get (by omega) (by omega) (Nat.le_refl _)) (Ev.pure' ?_))
        rw [List.take_length]
        rfl
      · have hm : (j : Int) ∈ allK p := by
          by_cases hm : (j : Int) ∈ allK p
          · exact hm
          · exact absurd ⟨j, hj, hm⟩ hx
        have := List.count_pos_iff.2 hm
        have := List.nodup_iff_count.1 hn (j : Int)
        omega
  | succ m ih =>
    intro i hi hv hn
    have hl : i < p.length := by omega
    have hkk := hk _ (List.getElem_mem hl)
    refine Ev.step (fun k => by rw [arena_Open_l0]) (Ev.dT (by omega) (Ev.opt (getI_lt hl) ?_))
    have loop : ∀ (m' j : Nat), p[i].2.2.2.2.length = j + m' → (∀ k ∈ p[i].2.2.2.2.take j, 0 ≤ k ∧ k < i) → (allK (p.take i) ++ p[i].2.2.2.2.take j).Nodup →
        Ev (fun K => arena_Open_l1 K p (nodesAt p i) (usedOf p.length (allK (p.take i) ++ p[i].2.2.2.2.take j)) (i : Int) (i : Int) p[i].2.2.2.2 (j : Int) p[i].1 p[i].2.1 p[i].2.2.1 p[i].2.2.2.1 ((p[i].2.2.2.2.take j).map fun k => (nodesL (p.take i)).getD k.toNat .nil)) (openT p) := by
      intro m'
      induction m' with
      | zero =>
        intro j hj hg hnn
        refine Ev.step (fun k => by rw [arena_Open_l1]) (Ev.dF (by omega) ?_)
        rw [List.take_of_length_le (l := p[i].2.2.2.2) (by omega)] at hg hnn ⊢
        refine Ev.iteT ⟨by omega, by rw [nodesAt_len (by omega)]; omega⟩ (Ev.opt (getI_lt (by rw [nodesAt_len (by omega)]; omega)) ?_)
        rw [wrap_nat (by omega), Int.toNat_natCast, nodesAt_set hl]
        rw [← allK_take hl] at hnn ⊢
        refine ih (i + 1) (by omega) (fun i' h' hlt k hk' => ?_) hnn
        by_cases e : i' = i
        · subst e; exact hg k hk'
        · exact hv i' h' (by omega) k hk'
      | succ m' ihm =>
        intro j hj hg hnn
        have hjl : j < p[i].2.2.2.2.length := by omega
        refine Ev.step (fun k => by rw [arena_Open_l1]) (Ev.dT (by omega) (Ev.opt (getI_lt hjl) ?_))
        refine Ev.d (fun e => Ev.pure' (openT_bad h1 hl (List.getElem_mem hjl) (by omega)).symm) fun e => ?_
        refine Ev.d (fun e2 => Ev.pure' (openT_bad h1 hl (List.getElem_mem hjl) (by omega)).symm) fun e2 => ?_
        refine Ev.iteT ⟨by omega, by rw [usedOf_len]; omega⟩ (Ev.opt (usedOf_get (by omega) (by omega)) ?_)
        refine Ev.d (fun e3 => Ev.pure' (openT_twice h0 h1 hl hjl ⟨by omega, by omega⟩ e3).symm) fun e3 => ?_
        refine Ev.iteT ⟨by omega, by rw [usedOf_len]; omega⟩ (Ev.opt (usedOf_get (by omega) (by omega)) ?_)
        refine Ev.iteT ⟨by omega, by rw [nodesAt_len (by omega)]; omega⟩ (Ev.opt (nodesAt_get (by omega) (by omega) (by omega)) (Ev.opt (appL_ok (by simp; omega)) ?_))
        rw [wrap_nat (by omega), usedOf_set (by omega), ← take_kids hjl]
        have := ihm (j + 1) (by omega) (fun k hk' => ?_) ?_
        · rw [take_get' hjl, List.map_append, List.map_cons, List.map_nil] at this
          rw [take_get' hjl]
          exact this
        · rw [take_get' hjl] at hk'
          rcases List.mem_append.1 hk' with h | h
          · exact hg k h
          · rw [List.mem_singleton.1 h]; omega
        · rw [take_kids hjl, List.nodup_append]
          refine ⟨hnn, by simp, fun a ha b hb => ?_⟩
          rw [List.mem_singleton.1 hb]
          exact fun e => e3 (e ▸ ha)
    have := loop p[i].2.2.2.2.length 0 (by omega) (by simp) (by simpa using hn)
    simpa using this
end

theorem ev_open {p : List Cell} (hk : ∀ c ∈ p, c.2.2.2.2.length ≤ 1048576) : Ev (fun K => arena_Open K p) (openT p) := by
  unfold arena_Open
  by_cases h0 : p.length = 0
  · refine Ev.dT (by omega) (Ev.pure' ?_)
    unfold openT; rw [if_pos h0]
  refine Ev.dF (by omega) ?_
  by_cases h1 : 8192 < p.length
  · refine Ev.dT (by omega) (Ev.pure' ?_)
    unfold openT; rw [if_neg h0, if_pos h1]
  refine Ev.dF (by omega) (Ev.opt (mkL_ok (by omega)) (Ev.opt (mkL_ok (by omega)) ?_))
  have := ev_open_l0 h0 (by omega) hk p.length 0 (by omega) (fun i _ hi => by omega) (by simp [allK])
  have e : usedOf p.length (allK (p.take 0)) = List.replicate p.length false := by
    apply List.ext_getElem
    · simp [usedOf]
    · intro j h1 h2; simp [usedOf, allK]
  rw [e] at this
  have e2 : nodesAt p 0 = List.replicate p.length .nil := by simp [nodesAt, nodesL]
  rw [e2] at this
  exact this
end Go.Proofs.YtojooakojnelbaaDoor

/- A type is written as its words. -/
namespace Go.Proofs.YtojooakojnelbaaDoor
open Go Go.Am Go.Sx
/-- in signs, if it must be -/
def par (b : Bool) (s : List UInt8) : List UInt8 := if b = true then [40, 32] ++ s ++ [32, 41] else s
theorem par_len (b : Bool) (s : List UInt8) : (par b s).length ≤ s.length + 4 := by
  unfold par; split <;> simp
def need (t : Tr) (level : Int) : Bool := (decide (kindOf t = 5) && decide (0 < level)) || (decide (kindOf t = 6) && decide (1 < level))
theorem need0 (t : Tr) : need t 0 = false := by simp [need]
theorem ev_paren (b : Bool) (s : List UInt8) (hs : s.length ≤ 1099511627776) : Ev (fun K => ptype_paren K b s) (par b s) := by
  refine Ev.congr (f := fun K => _) ?_ (fun k => by rw [ptype_paren])
  unfold par
  cases b
  · exact Ev.isF rfl Ev.pure
  · exact Ev.isT rfl (Ev.opt (catS_ok (by simp; omega)) (Ev.opt (catS_ok (by simp; omega)) Ev.pure))
theorem ck_len {s : List UInt8} (h : ckS s = true) : s.length ≤ 32 := by
  unfold ckS nmS at h
  simp only [Bool.and_eq_true, decide_eq_true_eq] at h
  exact h.1.2.1
theorem lg_len {s : List UInt8} (h : lgS s = true) : s.length ≤ 128 := by
  unfold lgS at h
  simp only [Bool.and_eq_true, decide_eq_true_eq] at h
  exact h.1
theorem k2S_form {p q : Tr → Bool} {l : List Tr} (h : k2S p q l = true) : ∃ x y, l = [x, y] ∧ p x = true ∧ q y = true := by
  match l, h with
  | [x, y], h => exact ⟨x, y, rfl, by simpa [k2S] using h⟩
theorem k1S_form {p : Tr → Bool} {l : List Tr} (h : k1S p l = true) : ∃ x, l = [x] ∧ p x = true := by
  match l, h with
  | [x], h => exact ⟨x, rfl, by simpa [k1S] using h⟩
theorem kind1 {k n : Int} {nm mk : List UInt8} {ks : List Tr} (h : isT 1 (.node k n nm mk ks) = true) : k = 1 ∨ k = 2 ∨ k = 3 ∨ k = 4 ∨ k = 5 ∨ k = 6 ∨ k = 7 := by
  by_cases e : k ∈ kindsOf 1
  · simpa [show kindsOf 1 = [1, 2, 3, 4, 5, 6, 7] from rfl] using e
  · rw [isT_none e] at h; cases h
theorem node_of {c : Int} {t : Tr} (h : isT c t = true) : ∃ k n nm mk ks, t = .node k n nm mk ks := by
  cases t with
  | nil => rw [isT_nil] at h; cases h
  | node k n nm mk ks => exact ⟨k, n, nm, mk, ks, rfl⟩
theorem jn_wp {w : List Wd} (h : w ≠ []) (b : Bool) : jn (wp b w) = par b (jn w) := by
  cases b with
  | false => rfl
  | true =>
    show [40] ++ jt (w ++ [(3, [41])]) = [40, 32] ++ jn w ++ [32, 41]
    rw [jt_app, jt_jn h]
    simp [jt]
theorem wp_ne {w : List Wd} (h : w ≠ []) (b : Bool) : wp b w ≠ [] := by
  cases b with
  | false => exact h
  | true => simp [wp]
theorem wp_len (b : Bool) (w : List Wd) : (wp b w).length ≤ w.length + 2 := by
  cases b <;> simp [wp]
theorem wp_gd {w : List Wd} (h : ∀ x ∈ w, Gd x) (b : Bool) : ∀ x ∈ wp b w, Gd x := by
  cases b with
  | false => exact h
  | true =>
    intro x hx
    rw [wp_t] at hx
    simp only [List.mem_cons, List.mem_append, List.not_mem_nil, or_false] at hx
    rcases hx with rfl | hx | rfl
    · exact .inr (by decide)
    · exact h x hx
    · exact .inr (by decide)
/-- a tree's words: they are written, and parsed -/
structure Bk (t : Tr) (w : List Wd) : Prop where
  ne : w ≠ []
  gd : ∀ x ∈ w, Gd x
  len : (jn w).length ≤ 200 * t.w
  cnt : w.length ≤ 8 * t.w
  wr : ∀ level : Int, Ev (fun K => ptype_write K t level) (jn (wp (need t level) w))
  p2 : Pa2 t (wp (need t 2) w)
  p1 : Pa1 t (wp (need t 1) w)
  p0 : Pa0 t w
/-- constructors, their types and words -/
abbrev CW := List UInt8 × Tr × List Wd
def cTr (x : CW) : Tr := .node 8 0 x.1 [] [x.2.1]
def cW (x : CW) : List Wd := (1, x.1) :: (3, [111, 102]) :: x.2.2
def csW : List CW → List Wd
  | [] => []
  | [x] => cW x
  | x :: y :: r => cW x ++ (3, [124]) :: csW (y :: r)
def CB (x : CW) : Prop := ckS x.1 = true ∧ Bk x.2.1 x.2.2
theorem csW_cons (x y : CW) (r : List CW) : csW (x :: y :: r) = cW x ++ (3, [124]) :: csW (y :: r) := rfl
theorem csW_ne (x : CW) (r : List CW) : csW (x :: r) ≠ [] := by cases r <;> simp [csW, cW]
theorem cs_gd : ∀ l : List CW, (∀ x ∈ l, CB x) → ∀ z ∈ csW l, Gd z
  | [], _, z, hz => by simp [csW] at hz
  | [x], h, z, hz => by
    obtain ⟨h1, h2⟩ := h x List.mem_cons_self
    simp only [csW, cW, List.mem_cons] at hz
    rcases hz with rfl | rfl | hz
    · exact .inl ⟨rfl, .inr h1⟩
    · exact .inr (by decide)
    · exact h2.gd z hz
  | x :: y :: r, h, z, hz => by
    obtain ⟨h1, h2⟩ := h x List.mem_cons_self
    rw [csW_cons] at hz
    simp only [cW, List.mem_append, List.mem_cons] at hz
    rcases hz with (rfl | rfl | hz) | rfl | hz
    · exact .inl ⟨rfl, .inr h1⟩
    · exact .inr (by decide)
    · exact h2.gd z hz
    · exact .inr (by decide)
    · exact cs_gd (y :: r) (fun q hq => h q (List.mem_cons_of_mem _ hq)) z hz
theorem cs_consW : ∀ (x : CW) (r : List CW), (∀ y ∈ x :: r, CB y) → ConsW ((x :: r).map cTr) (csW (x :: r))
  | x, [], h => by
    obtain ⟨h1, h2⟩ := h x List.mem_cons_self
    exact .one h1 h2.p0
  | x, y :: r, h => by
    obtain ⟨h1, h2⟩ := h x List.mem_cons_self
    exact .more h1 h2.p0 (cs_consW y r fun q hq => h q (List.mem_cons_of_mem _ hq))
abbrev bar : List UInt8 := [32, 124, 32]
def cT (x : CW) : List UInt8 := x.1 ++ [32, 111, 102, 32] ++ jn x.2.2
theorem jn_cW {x : CW} (h : CB x) : jn (cW x) = cT x := by
  show x.1 ++ (32 :: ([111, 102] ++ jt x.2.2)) = x.1 ++ [32, 111, 102, 32] ++ jn x.2.2
  rw [jt_jn h.2.ne]
  simp
theorem cW_ne (x : CW) : cW x ≠ [] := by simp [cW]
theorem jn_cs : ∀ (x : CW) (r : List CW), (∀ y ∈ x :: r, CB y) → jn (csW (x :: r)) = cT x ++ Lib.joinTail bar (r.map cT)
  | x, [], h => by
    show jn (cW x) = _
    rw [jn_cW (h x List.mem_cons_self)]; simp [Lib.joinTail]
  | x, y :: r, h => by
    have ih := jn_cs y r fun q hq => h q (List.mem_cons_of_mem _ hq)
    rw [csW_cons, jn_app (cW_ne x), jn_cW (h x List.mem_cons_self)]
    show cT x ++ (32 :: ([124] ++ jt (csW (y :: r)))) = _
    rw [jt_jn (csW_ne y r), ih]
    simp [Lib.joinTail]
theorem jn_join (x : CW) (r : List CW) (h : ∀ y ∈ x :: r, CB y) : jn (csW (x :: r)) = Lib.join ((x :: r).map cT) bar := by
  rw [jn_cs x r h, List.map_cons, Lib.join_cons]
theorem cT_len {x : CW} (h : CB x) : (cT x).length + 3 ≤ 200 * (cTr x).w := by
  have h1 := ck_len h.1
  have h2 := h.2.len
  unfold cTr cT
  rw [w_node, wL_cons, wL_nil]
  simp; omega
theorem tail_len : ∀ l : List CW, (∀ x ∈ l, CB x) → (Lib.joinTail bar (l.map cT)).length ≤ 200 * wL (l.map cTr)
  | [], _ => by simp [Lib.joinTail]
  | x :: r, h => by
    have h1 := cT_len (h x List.mem_cons_self)
    have ih := tail_len r fun q hq => h q (List.mem_cons_of_mem _ hq)
    rw [List.map_cons, List.map_cons, wL_cons]
    have : Lib.joinTail bar (cT x :: r.map cT) = bar ++ cT x ++ Lib.joinTail bar (r.map cT) := by simp [Lib.joinTail]
    rw [this]
    simp only [List.length_append, List.length_cons, List.length_nil]
    omega
theorem cs_len (x : CW) (r : List CW) (h : ∀ y ∈ x :: r, CB y) : (jn (csW (x :: r))).length ≤ 200 * wL ((x :: r).map cTr) := by
  have h1 := cT_len (h x List.mem_cons_self)
  have h2 := tail_len r fun q hq => h q (List.mem_cons_of_mem _ hq)
  rw [jn_cs x r h, List.map_cons, wL_cons, List.length_append]
  omega
theorem cs_cnt : ∀ (x : CW) (r : List CW), (∀ y ∈ x :: r, CB y) → (csW (x :: r)).length ≤ 8 * wL ((x :: r).map cTr)
  | x, [], h => by
    have h1 := (h x List.mem_cons_self).2.cnt
    simp only [csW, cW, cTr, List.map_cons, List.map_nil, wL_cons, wL_nil, w_node, List.length_cons]
    omega
  | x, y :: r, h => by
    have h1 := (h x List.mem_cons_self).2.cnt
    have ih := cs_cnt y r fun q hq => h q (List.mem_cons_of_mem _ hq)
    have e : (cTr x).w = 1 + (x.2.1.w) := by unfold cTr; rw [w_node, wL_cons, wL_nil]; omega
    rw [csW_cons, List.map_cons, wL_cons, e]
    simp only [cW, List.length_append, List.length_cons]
    omega
section
variable {k n : Int} {nm mk : List UInt8} {L : List CW} (hc : ∀ x ∈ L, CB x) (hw : wL (L.map cTr) ≤ 1048576) (hnm : nm.length ≤ 32) (hj : (Lib.join (L.map cT) bar).length ≤ 200 * wL (L.map cTr))
include hc hw hnm hj
theorem ev_mu_write : ∀ (m i : Nat), L.length = i + m → Ev (fun K => ptype_write_l0 K (.node k n nm mk (L.map cTr)) ((L.map cT).take i) (L.map cTr) (i : Int)) ([109, 117, 32] ++ nm ++ [32, 123, 32] ++ Lib.join (L.map cT) bar ++ [32, 125]) := by
  have hl := wL_len (L.map cTr)
  rw [List.length_map] at hl
  intro m
  induction m with
  | zero =>
    intro i hi
    have hj' : (Lib.join (L.map cT) [32, 124, 32]).length ≤ 200 * wL (L.map cTr) := hj
    rw [List.take_of_length_le (by simp; omega)]
    refine Ev.step (fun k => by rw [ptype_write_l0]) ?_
    refine Ev.dF (by simp; omega) (Ev.opt (catS_ok (by simp; omega)) (Ev.opt (catS_ok (by simp; omega)) (Ev.bind (a := Lib.join (L.map cT) bar) ⟨0, fun K _ => ?_⟩ (Ev.opt (catS_ok (by simp; omega)) (Ev.opt (catS_ok (by simp; omega)) Ev.pure)))))
    show (if _ then _ else _) = _
    rw [if_pos ⟨by omega, by simp; omega⟩]
  | succ m ih =>
    intro i hi
    have hlt : i < L.length := by omega
    have hlt1 : i < (L.map cTr).length := by simp; omega
    have hlt2 : i < (L.map cT).length := by simp; omega
    obtain ⟨e1, e2⟩ := hc L[i] (List.getElem_mem hlt)
    have hx := wL_mem (List.getElem_mem hlt1)
    have el := cT_len (hc L[i] (List.getElem_mem hlt))
    have e3 := ck_len e1
    have e4 := e2.len
    have g1 : (L.map cTr)[i] = .node 8 0 L[i].1 [] [L[i].2.1] := by rw [List.getElem_map]; rfl
    have g2 : (L.map cT)[i] = L[i].1 ++ [32, 111, 102, 32] ++ jn L[i].2.2 := by rw [List.getElem_map]; rfl
    rw [g1, w_node, wL_cons, wL_nil] at hx
    refine Ev.step (fun k => by rw [ptype_write_l0]) ?_
    refine Ev.dT (by omega) (Ev.opt (getI_lt hlt1) ?_)
    rw [g1]
    have w0 := e2.wr 0
    rw [need0, wp_f] at w0
    refine Ev.opt (catS_ok (by simp; omega)) (Ev.opt (a := L[i].2.1) rfl (Ev.bind w0 (Ev.opt (catS_ok (by simp; omega)) (Ev.opt (appL_ok (by simp; omega)) ?_))))
    rw [wrap_nat (by omega)]
    have := ih (i + 1) (by omega)
    rw [take_get' hlt2, g2] at this
    exact this
end
theorem consGo_parts : ∀ (l : List Tr) (s : List (List UInt8)), consGo (isT 8) s l = true → (∀ k ∈ l, isT 8 k = true ∧ nameOf k ∉ s) ∧ (l.map nameOf).Nodup
  | [], _, _ => ⟨fun _ h => by simp at h, List.nodup_nil⟩
  | k :: ks, s, h => by
    unfold consGo at h
    simp only [Bool.and_eq_true, Bool.not_eq_true', decide_eq_false_iff_not] at h
    obtain ⟨h1, h2, h3⟩ := h
    obtain ⟨i1, i2⟩ := consGo_parts ks _ h3
    refine ⟨fun x hx => ?_, ?_⟩
    · rcases List.mem_cons.1 hx with rfl | hx
      · exact ⟨h1, h2⟩
      · exact ⟨(i1 x hx).1, fun hm => (i1 x hx).2 (List.mem_append_left _ hm)⟩
    · rw [List.map_cons, List.nodup_cons]
      refine ⟨fun hm => ?_, i2⟩
      obtain ⟨x, hx, e⟩ := List.mem_map.1 hm
      exact (i1 x hx).2 (List.mem_append_right _ (by rw [e]; exact List.mem_singleton_self _))
theorem wp_nil (w : List Wd) {t : Tr} (h5 : kindOf t ≠ 5) (h6 : kindOf t ≠ 6) (lv : Int) : wp (need t lv) w = w := by
  have : need t lv = false := by unfold need; rw [decide_eq_false h5, decide_eq_false h6]; rfl
  rw [this]; rfl
theorem bk_atom {t : Tr} {w : List Wd} (h5 : kindOf t ≠ 5) (h6 : kindOf t ≠ 6) (hne : w ≠ []) (hg : ∀ x ∈ w, Gd x) (hl : (jn w).length ≤ 200 * t.w) (hcn : w.length ≤ 8 * t.w) (hw : ∀ level : Int, Ev (fun K => ptype_write K t level) (jn w)) (hp : Pa2 t w) : Bk t w :=
  ⟨hne, hg, hl, hcn, fun lv => by rw [wp_nil w h5 h6]; exact hw lv, by rw [wp_nil w h5 h6]; exact hp, by rw [wp_nil w h5 h6]; exact hp.to1, hp.to1.to0⟩
theorem bk_all : ∀ t : Tr, t.w ≤ 1048576 → (isT 1 t = true → ∃ w, Bk t w) ∧ (∀ y ∈ (match t with | .nil => [] | .node _ _ _ _ l => l), isT 1 y = true → ∃ w, Bk y w) := Tr.ind
  (fun _ => ⟨fun h => (by rw [isT_nil] at h; cases h), fun y hy => (by simp at hy)⟩)
  fun k n nm mk ks ih hw => by
    rw [w_node] at hw
    have kid : ∀ y ∈ ks, isT 1 y = true → ∃ w, Bk y w := fun y hy => (ih y hy (by have := wL_mem hy; omega)).1
    refine ⟨fun hi => ?_, kid⟩
    have zero : ∀ {m : Int}, (0 : Int) ≤ m → m ≤ 0 → m = 0 := fun h1 h2 => by omega
    rcases kind1 hi with rfl | rfl | rfl | rfl | rfl | rfl | rfl
    · rw [isT_row (r := (1, 1, [], [], 0, 0, [])) rfl] at hi
      simp only [bodyS, wordS_e, kidsS, Bool.and_eq_true, decide_eq_true_eq, List.length_eq_zero_iff] at hi
      obtain ⟨rfl, rfl, z1, z2, rfl⟩ := hi
      obtain rfl := zero z1 z2
      refine ⟨[(3, [105, 110, 116])], bk_atom (by decide) (by decide) (by simp) (fun x hx => .inr (by rw [List.mem_singleton] at hx; subst hx; decide)) (by rw [w_node]; simp [jn, jt]; omega) (by rw [w_node]; simp; omega) (fun level => ?_) pa_int⟩
      refine Ev.step (fun k => by rw [ptype_write]) ?_
      exact Ev.dF (by decide) (Ev.dF (by decide) (Ev.dT rfl Ev.pure))
    · rw [isT_row (r := (1, 2, [], [], 0, 0, [])) rfl] at hi
      simp only [bodyS, wordS_e, kidsS, Bool.and_eq_true, decide_eq_true_eq, List.length_eq_zero_iff] at hi
      obtain ⟨rfl, rfl, z1, z2, rfl⟩ := hi
      obtain rfl := zero z1 z2
      refine ⟨[(3, [98, 111, 111, 108])], bk_atom (by decide) (by decide) (by simp) (fun x hx => .inr (by rw [List.mem_singleton] at hx; subst hx; decide)) (by rw [w_node]; simp [jn, jt]; omega) (by rw [w_node]; simp; omega) (fun level => ?_) pa_bool⟩
      refine Ev.step (fun k => by rw [ptype_write]) ?_
      exact Ev.dF (by decide) (Ev.dF (by decide) (Ev.dF (by decide) (Ev.dT rfl Ev.pure)))
    · rw [isT_row (r := (1, 3, [], [], 0, 0, [])) rfl] at hi
      simp only [bodyS, wordS_e, kidsS, Bool.and_eq_true, decide_eq_true_eq, List.length_eq_zero_iff] at hi
      obtain ⟨rfl, rfl, z1, z2, rfl⟩ := hi
      obtain rfl := zero z1 z2
      refine ⟨[(3, [117, 110, 105, 116])], bk_atom (by decide) (by decide) (by simp) (fun x hx => .inr (by rw [List.mem_singleton] at hx; subst hx; decide)) (by rw [w_node]; simp [jn, jt]; omega) (by rw [w_node]; simp; omega) (fun level => ?_) pa_unit⟩
      refine Ev.step (fun k => by rw [ptype_write]) ?_
      exact Ev.dF (by decide) (Ev.dF (by decide) (Ev.dF (by decide) (Ev.dF (by decide) (Ev.dT rfl Ev.pure))))
    · rw [isT_row (r := (1, 4, [108], [], 0, 0, [])) rfl] at hi
      simp only [bodyS, wordS_e, wordS_l, kidsS, Bool.and_eq_true, decide_eq_true_eq, List.length_eq_zero_iff] at hi
      obtain ⟨hl, rfl, z1, z2, rfl⟩ := hi
      obtain rfl := zero z1 z2
      have hll := lg_len hl
      refine ⟨[(1, nm)], bk_atom (by simp [kindOf]) (by simp [kindOf]) (by simp) (fun x hx => .inl (by rw [List.mem_singleton] at hx; subst hx; exact ⟨rfl, .inl hl⟩)) (by rw [w_node]; simp [jn, jt]; omega) (by rw [w_node]; simp; omega) (fun level => ?_) (pa_name hl)⟩
      refine Ev.step (fun k => by rw [ptype_write]) ?_
      exact Ev.dF (by decide) (Ev.dF (by decide) (Ev.dF (by decide) (Ev.dF (by decide) (Ev.dF (by decide) (Ev.dF (by decide) (Ev.pure' (by simp [jn, jt])))))))
    · rw [isT_row (r := (1, 5, [], [], 0, 0, [116, 116])) rfl] at hi
      simp only [bodyS, wordS_e, Bool.and_eq_true, decide_eq_true_eq, kidsS_2 (a := 116) (b := 116) (c := 1) (d := 1) (by decide) (by decide) (by decide) (by decide) (by decide) (by decide) rfl rfl] at hi
      obtain ⟨rfl, rfl, z1, z2, hk⟩ := hi
      obtain rfl := zero z1 z2
      obtain ⟨x, y, rfl, hx, hy⟩ := k2S_form hk
      obtain ⟨wx, bx⟩ := kid x (by simp) hx
      obtain ⟨wy, bd⟩ := kid y (by simp) hy
      rw [wL_cons, wL_cons, wL_nil] at hw
      have lx := bx.len
      have ly := bd.len
      have px := par_len (need x 1) (jn wx)
      have w1 := bx.wr 1
      have w2 := bd.wr 0
      rw [need0, wp_f] at w2
      rw [jn_wp bx.ne] at w1
      have hj : jn (wp (need x 1) wx ++ (3, [45, 62]) :: wy) = par (need x 1) (jn wx) ++ [32, 45, 62, 32] ++ jn wy := by
        rw [jn_app (wp_ne bx.ne _), jn_wp bx.ne]
        show par (need x 1) (jn wx) ++ (32 :: ([45, 62] ++ jt wy)) = _
        rw [jt_jn bd.ne]; simp
      have hp0 := pa_arrow bx.p1 bd.p0
      have hne : wp (need x 1) wx ++ (3, [45, 62]) :: wy ≠ [] := by simp
      refine ⟨wp (need x 1) wx ++ (3, [45, 62]) :: wy, hne, fun z hz => ?_, ?_, ?_, fun level => ?_, hp0.paren, hp0.paren.to1, hp0⟩
      · rw [List.mem_append, List.mem_cons] at hz
        rcases hz with hz | rfl | hz
        · exact wp_gd bx.gd _ z hz
        · exact .inr (by decide)
        · exact bd.gd z hz
      · rw [hj, w_node, wL_cons, wL_cons, wL_nil]; simp; omega
      · have := bx.cnt; have := bd.cnt; have := wp_len (need x 1) wx; rw [w_node, wL_cons, wL_cons, wL_nil]; simp; omega
      · rw [jn_wp hne, hj]
        refine Ev.step (fun k => by rw [ptype_write]) ?_
        refine Ev.dT rfl (Ev.opt (a := x) rfl (Ev.opt (a := y) rfl (Ev.bind w1 (Ev.opt (catS_ok (by simp; omega)) (Ev.bind w2 (Ev.opt (catS_ok (by simp; omega)) (Ev.ret (Ev.cast (ev_paren _ _ (by simp; omega)) ?_))))))))
        simp [need, kindOf]
    · rw [isT_row (r := (1, 6, [], [], 0, 0, [116, 116])) rfl] at hi
      simp only [bodyS, wordS_e, Bool.and_eq_true, decide_eq_true_eq, kidsS_2 (a := 116) (b := 116) (c := 1) (d := 1) (by decide) (by decide) (by decide) (by decide) (by decide) (by decide) rfl rfl] at hi
      obtain ⟨rfl, rfl, z1, z2, hk⟩ := hi
      obtain rfl := zero z1 z2
      obtain ⟨x, y, rfl, hx, hy⟩ := k2S_form hk
      obtain ⟨wx, bx⟩ := kid x (by simp) hx
      obtain ⟨wy, bd⟩ := kid y (by simp) hy
      rw [wL_cons, wL_cons, wL_nil] at hw
      have lx := bx.len
      have ly := bd.len
      have px := par_len (need x 2) (jn wx)
      have py := par_len (need y 1) (jn wy)
      have w1 := bx.wr 2
      have w2 := bd.wr 1
      rw [jn_wp bd.ne] at w2
      rw [jn_wp bx.ne] at w1
      have hj : jn (wp (need x 2) wx ++ (3, [42]) :: wp (need y 1) wy) = par (need x 2) (jn wx) ++ [32, 42, 32] ++ par (need y 1) (jn wy) := by
        rw [jn_app (wp_ne bx.ne _), jn_wp bx.ne]
        show par (need x 2) (jn wx) ++ (32 :: ([42] ++ jt (wp (need y 1) wy))) = _
        rw [jt_jn (wp_ne bd.ne _), jn_wp bd.ne]; simp
      have hp1 := pa_pair bx.p2 bd.p1
      have hne : wp (need x 2) wx ++ (3, [42]) :: wp (need y 1) wy ≠ [] := by simp
      refine ⟨wp (need x 2) wx ++ (3, [42]) :: wp (need y 1) wy, hne, fun z hz => ?_, ?_, ?_, fun level => ?_, hp1.to0.paren, hp1, hp1.to0⟩
      · rw [List.mem_append, List.mem_cons] at hz
        rcases hz with hz | rfl | hz
        · exact wp_gd bx.gd _ z hz
        · exact .inr (by decide)
        · exact wp_gd bd.gd _ z hz
      · rw [hj, w_node, wL_cons, wL_cons, wL_nil]; simp; omega
      · have := bx.cnt; have := bd.cnt; have := wp_len (need x 2) wx; have := wp_len (need y 1) wy; rw [w_node, wL_cons, wL_cons, wL_nil]; simp; omega
      · rw [jn_wp hne, hj]
        refine Ev.step (fun k => by rw [ptype_write]) ?_
        refine Ev.dF (by decide) (Ev.dT rfl (Ev.opt (a := x) rfl (Ev.opt (a := y) rfl (Ev.bind w1 (Ev.opt (catS_ok (by simp; omega)) (Ev.bind w2 (Ev.opt (catS_ok (by simp; omega)) (Ev.ret (Ev.cast (ev_paren _ _ (by simp; omega)) ?_)))))))))
        simp [need, kindOf]
    · rw [isT_row (r := (1, 7, [110], [], 0, 0, [67])) rfl] at hi
      have e67 : kidsS isT [67] ks = (consGo (isT 8) [] ks && decide (0 < ks.length)) := rfl
      simp only [bodyS, wordS_n, wordS_e, Bool.and_eq_true, decide_eq_true_eq, e67] at hi
      obtain ⟨hn, rfl, z1, z2, hcg, hpos⟩ := hi
      obtain rfl := zero z1 z2
      have hnl := ck_len hn
      obtain ⟨hall, hnd⟩ := consGo_parts ks [] hcg
      have hcs : ∀ (l : List Tr), (∀ x ∈ l, x ∈ ks) → ∃ L : List CW, l = L.map cTr ∧ ∀ x ∈ L, CB x := by
        intro l
        induction l with
        | nil => intro _; exact ⟨[], rfl, fun x hx => by simp at hx⟩
        | cons x l ihl =>
          intro hm
          obtain ⟨L, hL, hB⟩ := ihl fun z hz => hm z (List.mem_cons_of_mem _ hz)
          have hxm := hm x List.mem_cons_self
          have h8 := (hall x hxm).1
          obtain ⟨kx, nx, nmx, mkx, ksx, rfl⟩ := node_of h8
          rw [isT_con] at h8
          simp only [bareS, Bool.true_or, Bool.true_and, Bool.false_or, Bool.and_eq_true, decide_eq_true_eq] at h8
          obtain ⟨rfl, ⟨rfl, rfl⟩, hck, hk1⟩ := h8
          obtain ⟨y, rfl, hy⟩ := k1S_form hk1
          obtain ⟨w, bd⟩ := (ih _ hxm (by have := wL_mem hxm; omega)).2 y (by simp) hy
          refine ⟨(nmx, y, w) :: L, by rw [List.map_cons, hL]; rfl, fun z hz => ?_⟩
          rcases List.mem_cons.1 hz with rfl | hz
          · exact ⟨hck, bd⟩
          · exact hB z hz
      obtain ⟨L, rfl, hB⟩ := hcs ks fun x hx => hx
      cases L with
      | nil => simp at hpos
      | cons c r =>
        have hlen := cs_len c r hB
        have hjj := jn_join c r hB
        have hjn : jn ((3, [109, 117]) :: (1, nm) :: (3, [123]) :: (csW (c :: r) ++ [(3, [125])])) = [109, 117, 32] ++ nm ++ [32, 123, 32] ++ Lib.join ((c :: r).map cT) bar ++ [32, 125] := by
          show [109, 117] ++ (32 :: (nm ++ (32 :: ([123] ++ jt (csW (c :: r) ++ [(3, [125])]))))) = _
          rw [jt_app, jt_jn (csW_ne c r), hjj]
          simp [jt]
        refine ⟨(3, [109, 117]) :: (1, nm) :: (3, [123]) :: (csW (c :: r) ++ [(3, [125])]), bk_atom (by simp [kindOf]) (by simp [kindOf]) (by simp) (fun z hz => ?_) ?_ ?_ (fun level => ?_) (pa_mu hn (cs_consW c r hB) hnd)⟩
        · simp only [List.mem_cons, List.mem_append, List.not_mem_nil, or_false] at hz
          rcases hz with rfl | rfl | rfl | hz | rfl
          · exact .inr (by decide)
          · exact .inl ⟨rfl, .inr hn⟩
          · exact .inr (by decide)
          · exact cs_gd _ hB z hz
          · exact .inr (by decide)
        · rw [hjn, w_node, ← hjj]; simp only [List.length_append, List.length_cons, List.length_nil]; omega
        · have := cs_cnt c r hB; rw [w_node]; simp only [List.length_append, List.length_cons, List.length_nil]; omega
        · rw [hjn]
          refine Ev.step (fun k => by rw [ptype_write]) ?_
          refine Ev.dF (by decide) (Ev.dF (by decide) (Ev.dF (by decide) (Ev.dF (by decide) (Ev.dF (by decide) (Ev.dT rfl ?_)))))
          exact ev_mu_write hB (by omega) hnl (by rw [← hjj]; exact hlen) (c :: r).length 0 (by omega)
end Go.Proofs.YtojooakojnelbaaDoor

/- What is parsed has a type's form. -/
namespace Go.Proofs.YtojooakojnelbaaDoor
open Go Go.Am Go.Sx
theorem consGo_snoc (f : Tr → Bool) (k : Tr) : ∀ (l : List Tr) (s : List (List UInt8)), consGo f s (l ++ [k]) = (consGo f s l && (f k && !decide (nameOf k ∈ s ++ l.map nameOf)))
  | [], s => by simp [consGo]
  | x :: l, s => by
    rw [List.cons_append]
    unfold consGo
    rw [consGo_snoc f k l]
    simp [Bool.and_assoc]
theorem name_ck {l : List Token} {i : Int} (h : (nameS l i).2 = true) : ckS (nameS l i).1 = true := by
  unfold nameS at h ⊢
  generalize tokAt l i = o at h ⊢
  cases o with
  | none => cases h
  | some k =>
    simp only at h ⊢
    split at h
    · rename_i hc
      rw [if_pos hc]; exact hc.2
    · cases h
theorem long_lg {l : List Token} {i : Int} (h : (longS l i).2 = true) : lgS (longS l i).1 = true := by
  unfold longS at h ⊢
  generalize tokAt l i = o at h ⊢
  cases o with
  | none => cases h
  | some k =>
    simp only at h ⊢
    split at h
    · rename_i hc
      rw [if_pos hc]; exact hc.2
    · cases h
theorem good0 {k : Int} {nm : List UInt8} {ks : List Tr} (h1 : nm.length ≤ 1000) (h2 : ks.length ≤ 1000000) (h3 : ∀ x ∈ ks, Good x) : Good (.node k 0 nm [] ks) := .mk (by omega) (by simp) (by omega) h3
theorem isT_two {k : Int} (hk : k = 5 ∨ k = 6) {a b : Tr} (ha : isT 1 a = true) (hb : isT 1 b = true) : isT 1 (.node k 0 [] [] [a, b]) = true := by
  rcases hk with rfl | rfl
  · rw [isT_row (r := (1, 5, [], [], 0, 0, [116, 116])) rfl]
    simp [bodyS, wordS_e, kidsS_2 (a := 116) (b := 116) (c := 1) (d := 1) (by decide) (by decide) (by decide) (by decide) (by decide) (by decide) rfl rfl, k2S, ha, hb]
  · rw [isT_row (r := (1, 6, [], [], 0, 0, [116, 116])) rfl]
    simp [bodyS, wordS_e, kidsS_2 (a := 116) (b := 116) (c := 1) (d := 1) (by decide) (by decide) (by decide) (by decide) (by decide) (by decide) rfl rfl, k2S, ha, hb]
theorem isT_mu {nm : List UInt8} {ks : List Tr} (hn : ckS nm = true) (hc : consGo (isT 8) [] ks = true) (h0 : ks ≠ []) : isT 1 (.node 7 0 nm [] ks) = true := by
  rw [isT_row (r := (1, 7, [110], [], 0, 0, [67])) rfl]
  have e67 : kidsS isT [67] ks = (consGo (isT 8) [] ks && decide (0 < ks.length)) := rfl
  have hp : 0 < ks.length := List.length_pos_iff.2 h0
  simp [bodyS, wordS_e, wordS_n, e67, hn, hc, hp]
theorem isT_c {nm : List UInt8} {t : Tr} (hn : ckS nm = true) (ht : isT 1 t = true) : isT 8 (.node 8 0 nm [] [t]) = true := by
  rw [isT_con]
  simp [bareS, hn, ht, k1S]
section
variable (l : List Token)
theorem pf_all : ∀ n, n ≤ 100000 → ∀ i, (∀ t j, typS l n i = (t, j, 0) → isT 1 t = true ∧ Good t) ∧ (∀ t j, prodS l n i = (t, j, 0) → isT 1 t = true ∧ Good t) ∧ (∀ t j, atomS l n i = (t, j, 0) → isT 1 t = true ∧ Good t) ∧
    (∀ out c j, consS l n i out = (c, j, 0) → consGo (isT 8) [] out = true → (∀ x ∈ out, Good x) → consGo (isT 8) [] c = true ∧ c ≠ [] ∧ (∀ x ∈ c, Good x) ∧ c.length ≤ out.length + n) := by
  intro n
  induction n with
  | zero =>
    intro _ i
    refine ⟨fun t j h => ?_, fun t j h => ?_, fun t j h => ?_, fun out c j h => ?_⟩
    · rw [typS] at h; simp at h
    · rw [prodS] at h; simp at h
    · rw [atomS] at h; simp at h
    · rw [consS] at h; simp at h
  | succ n ih =>
    intro hn i
    have ih := ih (by omega)
    refine ⟨fun t j h => ?_, fun t j h => ?_, fun t j h => ?_, fun out c j h hco hgo => ?_⟩
    · rw [typS] at h
      have h1 := (ih i).2.1
      generalize prodS l n i = g at *
      obtain ⟨a, j1, e1⟩ := g
      simp only at h
      by_cases he : e1 = 0
      · subst he
        rw [if_pos rfl] at h
        obtain ⟨a1, a2⟩ := h1 a j1 rfl
        by_cases hk : keyS l (j1 : Int) [45, 62] = true
        · rw [if_pos hk] at h
          have h2 := (ih (j1 + 1)).1
          generalize typS l n (j1 + 1) = g at *
          obtain ⟨b, j2, e2⟩ := g
          simp only [Prod.mk.injEq] at h
          obtain ⟨h3, h4, h5⟩ := h
          subst h5
          obtain ⟨b1, b2⟩ := h2 b j2 rfl
          rw [if_pos rfl] at h3
          subst h3
          exact ⟨isT_two (.inl rfl) a1 b1, good0 (by simp) (by simp) (by simp [a2, b2])⟩
        · rw [if_neg hk] at h
          simp only [Prod.mk.injEq] at h
          obtain ⟨rfl, _, _⟩ := h
          exact ⟨a1, a2⟩
      · rw [if_neg he] at h
        simp only [Prod.mk.injEq] at h
        exact absurd h.2.2 he
    · rw [prodS] at h
      have h1 := (ih i).2.2.1
      generalize atomS l n i = g at *
      obtain ⟨a, j1, e1⟩ := g
      simp only at h
      by_cases he : e1 = 0
      · subst he
        rw [if_pos rfl] at h
        obtain ⟨a1, a2⟩ := h1 a j1 rfl
        by_cases hk : keyS l (j1 : Int) [42] = true
        · rw [if_pos hk] at h
          have h2 := (ih (j1 + 1)).2.1
          generalize prodS l n (j1 + 1) = g at *
          obtain ⟨b, j2, e2⟩ := g
          simp only [Prod.mk.injEq] at h
          obtain ⟨h3, h4, h5⟩ := h
          subst h5
          obtain ⟨b1, b2⟩ := h2 b j2 rfl
          rw [if_pos rfl] at h3
          subst h3
          exact ⟨isT_two (.inr rfl) a1 b1, good0 (by simp) (by simp) (by simp [a2, b2])⟩
        · rw [if_neg hk] at h
          simp only [Prod.mk.injEq] at h
          obtain ⟨rfl, _, _⟩ := h
          exact ⟨a1, a2⟩
      · rw [if_neg he] at h
        simp only [Prod.mk.injEq] at h
        exact absurd h.2.2 he
    · rw [atomS] at h
      by_cases c1 : (longS l (i : Int)).2 = true
      · rw [if_pos c1] at h
        simp only [Prod.mk.injEq] at h
        obtain ⟨rfl, _, _⟩ := h
        have hl := long_lg c1
        have hll := lg_len hl
        refine ⟨?_, good0 (by omega) (by simp) (by simp)⟩
        rw [isT_row (r := (1, 4, [108], [], 0, 0, [])) rfl]
        simp [bodyS, wordS_e, wordS_l, kidsS, hl]
      rw [if_neg c1] at h
      by_cases c2 : keyS l (i : Int) [105, 110, 116] = true
      · rw [if_pos c2] at h
        simp only [Prod.mk.injEq] at h
        obtain ⟨rfl, _, _⟩ := h
        refine ⟨?_, good0 (by simp) (by simp) (by simp)⟩
        rw [isT_row (r := (1, 1, [], [], 0, 0, [])) rfl]
        simp [bodyS, wordS_e, kidsS]
      rw [if_neg c2] at h
      by_cases c3 : keyS l (i : Int) [98, 111, 111, 108] = true
      · rw [if_pos c3] at h
        simp only [Prod.mk.injEq] at h
        obtain ⟨rfl, _, _⟩ := h
        refine ⟨?_, good0 (by simp) (by simp) (by simp)⟩
        rw [isT_row (r := (1, 2, [], [], 0, 0, [])) rfl]
        simp [bodyS, wordS_e, kidsS]
      rw [if_neg c3] at h
      by_cases c4 : keyS l (i : Int) [117, 110, 105, 116] = true
      · rw [if_pos c4] at h
        simp only [Prod.mk.injEq] at h
        obtain ⟨rfl, _, _⟩ := h
        refine ⟨?_, good0 (by simp) (by simp) (by simp)⟩
        rw [isT_row (r := (1, 3, [], [], 0, 0, [])) rfl]
        simp [bodyS, wordS_e, kidsS]
      rw [if_neg c4] at h
      by_cases c5 : keyS l (i : Int) [40] = true
      · rw [if_pos c5] at h
        have h1 := (ih (i + 1)).1
        generalize typS l n (i + 1) = g at *
        obtain ⟨a, j1, e1⟩ := g
        simp only at h
        by_cases he : e1 = 0
        · subst he
          rw [if_pos rfl] at h
          obtain ⟨a1, a2⟩ := h1 a j1 rfl
          by_cases hk : keyS l (j1 : Int) [41] = true
          · rw [if_pos hk] at h
            simp only [Prod.mk.injEq] at h
            obtain ⟨rfl, _, _⟩ := h
            exact ⟨a1, a2⟩
          · rw [if_neg hk] at h
            simp at h
        · rw [if_neg he] at h
          simp only [Prod.mk.injEq] at h
          exact absurd h.2.2 he
      rw [if_neg c5] at h
      by_cases c6 : keyS l (i : Int) [109, 117] = true
      · rw [if_pos c6] at h
        by_cases c7 : (nameS l ((i + 1 : Nat) : Int)).2 = true
        · rw [if_pos c7] at h
          by_cases c8 : keyS l ((i + 2 : Nat) : Int) [123] = true
          · rw [if_pos c8] at h
            have hck := name_ck c7
            have h1 := (ih (i + 3)).2.2.2 []
            generalize consS l n (i + 3) [] = g at *
            obtain ⟨c, j1, e1⟩ := g
            simp only at h
            by_cases he : e1 = 0
            · subst he
              rw [if_pos rfl] at h
              obtain ⟨a1, a2, a3, a4⟩ := h1 c j1 rfl rfl (by simp)
              by_cases hk : keyS l (j1 : Int) [125] = true
              · rw [if_pos hk] at h
                simp only [Prod.mk.injEq] at h
                obtain ⟨rfl, _, _⟩ := h
                exact ⟨isT_mu hck a1 a2, good0 (by have := ck_len hck; omega) (by simp at a4; omega) a3⟩
              · rw [if_neg hk] at h
                simp at h
            · rw [if_neg he] at h
              simp only [Prod.mk.injEq] at h
              exact absurd h.2.2 he
          · rw [if_neg c8] at h
            simp at h
        · rw [if_neg c7] at h
          simp at h
      · rw [if_neg c6] at h
        simp at h
    · rw [consS] at h
      by_cases c1 : (nameS l (i : Int)).2 = true
      · rw [if_pos c1] at h
        have hck := name_ck c1
        by_cases c2 : (nameS l (i : Int)).1 ∈ out.map nameOf
        · rw [if_pos c2] at h
          simp at h
        rw [if_neg c2] at h
        generalize (nameS l (i : Int)).1 = s at *
        by_cases c3 : keyS l ((i + 1 : Nat) : Int) [111, 102] = true
        · rw [if_pos c3] at h
          have h1 := (ih (i + 2)).1
          generalize typS l n (i + 2) = g at *
          obtain ⟨a, j1, e1⟩ := g
          simp only at h
          by_cases he : e1 = 0
          · subst he
            rw [if_pos rfl] at h
            obtain ⟨a1, a2⟩ := h1 a j1 rfl
            have hco' : consGo (isT 8) [] (out ++ [.node 8 0 s [] [a]]) = true := by
              rw [consGo_snoc, hco, isT_c hck a1, List.nil_append, show nameOf (Tr.node 8 0 s [] [a]) = s from rfl, decide_eq_false c2]; rfl
            have hgo' : ∀ x ∈ out ++ [Tr.node 8 0 s [] [a]], Good x := fun x hx => by
              rcases List.mem_append.1 hx with hx | hx
              · exact hgo x hx
              · rw [List.mem_singleton.1 hx]
                exact good0 (by have := ck_len hck; omega) (by simp) (by simp [a2])
            by_cases hk : keyS l (j1 : Int) [124] = true
            · rw [if_pos hk] at h
              obtain ⟨b1, b2, b3, b4⟩ := (ih (j1 + 1)).2.2.2 _ c j h hco' hgo'
              exact ⟨b1, b2, b3, by simp at b4; omega⟩
            · rw [if_neg hk] at h
              simp only [Prod.mk.injEq] at h
              obtain ⟨rfl, _, _⟩ := h
              exact ⟨hco', by simp, hgo', by simp⟩
          · rw [if_neg he] at h
            simp only [Prod.mk.injEq] at h
            exact absurd h.2.2 he
        · rw [if_neg c3] at h
          simp at h
      · rw [if_neg c1] at h
        simp at h
end
/-- there and back -/
theorem round_trip {t : Tr} (hw : t.w ≤ 80) (hi : isT 1 t = true) : ∃ s toks, Ev (fun K => ptype_write K t 0) s ∧ Ev (fun K => lexer_Lex K s) (toks, 0, 0) ∧ Ev (fun K => ptype_Type K toks 0) (t, ((toks.length : Nat) : Int), 0) := by
  obtain ⟨w, b⟩ := (bk_all t (by omega)).1 hi
  have w0 := b.wr 0
  rw [need0, wp_f] at w0
  have hl := b.len
  have hcn := b.cnt
  obtain ⟨toks, q1, q2⟩ := ev_lex b.ne (fun x hx => (b.gd x hx).tk) (by omega)
  have ql : toks.length = w.length := by rw [← q1, List.length_map]
  have hp := b.p0 toks 0 (3 * toks.length + 3) [] (by unfold At; rw [q1, List.append_nil]; rfl) rfl rfl (by omega)
  obtain ⟨h1, _, _⟩ := type0 (l := toks) (by omega) (n := 3 * toks.length + 3) (Nat.le_refl _)
  rw [hp] at h1
  refine ⟨jn w, toks, w0, q2, ?_⟩
  have e : ansS (t, 0 + w.length, 0) = (t, ((toks.length : Nat) : Int), 0) := by
    unfold ansS; rw [if_pos rfl, ql, Nat.zero_add]
  rw [e] at h1
  exact h1
end Go.Proofs.YtojooakojnelbaaDoor

/- The plain laws PtypeForms and PtypeBack. -/
namespace Go.Proofs.YtojooakojnelbaaDoor
open Go Go.Am Go.Sx
theorem law06_PtypeForms_true (a : List Token) (i : Int) : ∃ K, law06_PtypeForms K a i = some true := by
  refine Ev.get (f := fun K => law06_PtypeForms K a i) ?_
  refine Ev.congr (f := fun K => _) ?_ (fun k => by rw [law06_PtypeForms])
  have ha := fewT_len a
  refine Ev.bind (ev_Few a) ?_
  generalize fewT a = p at *
  by_cases hi : 0 ≤ i ∧ i ≤ (p.length : Int)
  · obtain ⟨m, rfl⟩ : ∃ m : Nat, i = m := ⟨i.toNat, by omega⟩
    have hm : m ≤ p.length := by omega
    obtain ⟨h1, h2, h3⟩ := type_i (l := p) (by omega) hm (n := 3 * (p.length - m) + 3) (Nat.le_refl _)
    have hf := (pf_all p (3 * (p.length - m) + 3) (by omega) m).1
    generalize typS p (3 * (p.length - m) + 3) m = g at *
    obtain ⟨t, j, e⟩ := g
    simp only at h2 h3
    by_cases he : e = 0
    · subst he
      have e1 : ansS (t, j, 0) = (t, ((j : Nat) : Int), 0) := if_pos rfl
      rw [e1] at h1
      refine Ev.bind h1 ?_
      obtain ⟨i1, i2⟩ := h3 rfl
      obtain ⟨f1, f2⟩ := hf t j rfl
      have hw : t.w ≤ 80 := by omega
      refine Ev.nF rfl ?_
      have hfine : Fine t := ⟨by omega, fun _ => f2⟩
      have hfull := good_full t f2
      have hsz := sizeT_le t
      have hty := ev_Type hfine
      have hchk : chk 1 t = if 60 < deepT t then 7 else 0 := by
        have e : packT t = (cellsT t 0, 0) := by unfold packT; rw [if_pos hfull, if_neg (by omega)]
        unfold chk
        rw [e, if_pos rfl, f1, if_pos rfl]
      rw [hchk] at hty
      by_cases hd : 60 < deepT t
      · rw [if_pos hd] at hty
        refine Ev.bind hty ?_
        refine Ev.dT rfl ?_
        exact Ev.bind ev_works6 Ev.pure
      · rw [if_neg hd] at hty
        refine Ev.bind hty ?_
        refine Ev.dF (by decide) ?_
        obtain ⟨s, toks, q1, q2, q3⟩ := round_trip hw f1
        refine Ev.bind (a := (s, (0 : Int))) (Ev.congr (f := fun K => _) (Ev.bind hty (Ev.nF rfl (Ev.bind q1 Ev.pure))) (fun k => by rw [ptype_Write])) ?_
        show Ev (fun K => law06_PtypeForms_c0 K ((m : Nat) : Int) t ((j : Nat) : Int) 0 s 0) true
        refine Ev.step (fun k => by rw [law06_PtypeForms_c0]) ?_
        refine Ev.bind q2 ?_
        refine Ev.bind q3 ?_
        refine Ev.dT rfl ?_
        refine Ev.dT (by omega) ?_
        refine Ev.dT rfl ?_
        refine Ev.dT rfl ?_
        refine Ev.dT rfl ?_
        refine Ev.bind (ev_asame t (by omega)) ?_
        refine Ev.isT rfl ?_
        exact Ev.bind ev_works6 Ev.pure
    · have e1 : ansS (t, j, e) = (.nil, ((j : Nat) : Int), e) := if_neg he
      rw [e1] at h1
      refine Ev.bind h1 ?_
      refine Ev.nT he ?_
      refine Ev.dT (by omega) ?_
      refine Ev.dT (by omega) ?_
      exact Ev.bind ev_works6 Ev.pure
  · refine Ev.bind (type_no (l := p) (by omega) hi) ?_
    refine Ev.nT (by decide) ?_
    refine Ev.dT (by decide) ?_
    refine Ev.dT (by omega) ?_
    exact Ev.bind ev_works6 Ev.pure
theorem ev_cells6_loop {p : List Cell} : ∀ (m i : Nat) (acc : List Cell), i + m = min p.length 80 → acc.length = i → Ev (fun K => law06_cells_l0 K p (i : Int) acc) (acc ++ ((p.take 80).drop i).map cutC) := by
  intro m
  induction m with
  | zero =>
    intro i acc hi ha
    refine Ev.step (fun k => by rw [law06_cells_l0]) ?_
    have hd : (p.take 80).drop i = [] := List.drop_of_length_le (by simp; omega)
    rw [hd]
    refine Ev.d (fun h => ?_) (fun _ => Ev.pure' (by simp))
    exact Ev.dF (by omega) (Ev.pure' (by simp))
  | succ m ihm =>
    intro i acc hi ha
    have hlt : i < p.length := by omega
    have hlt' : i < (p.take 80).length := by simp; omega
    refine Ev.step (fun k => by rw [law06_cells_l0]) ?_
    refine Ev.dT (by omega) (Ev.dT (by omega) (Ev.opt (getI_lt hlt) ?_))
    refine Ev.opt (sub_min (m := 130)) (Ev.opt (sub_min (m := 130)) (Ev.opt (sub_min (m := 12)) ?_))
    refine Ev.opt (appL_ok (by simp; omega)) (Ev.opt (appL_ok (by simp; omega)) ?_)
    rw [wrap_nat (by omega), drop_get hlt', List.map_cons]
    have := ihm (i + 1) (acc ++ [cutC p[i]]) (by omega) (by simp [ha])
    rw [List.append_assoc] at this
    simpa [cutC] using this
theorem ev_cells6 (p : List Cell) : Ev (fun K => law06_cells K p) (fewL p) := by
  have := ev_cells6_loop (p := p) (min p.length 80) 0 [] (by omega) rfl
  simpa [law06_cells, fewL] using this
theorem law06_PtypeBack_true (l : List Cell) : ∃ K, law06_PtypeBack K l = some true := by
  refine Ev.get (f := fun K => law06_PtypeBack K l) ?_
  refine Ev.congr (f := fun K => _) ?_ (fun k => by rw [law06_PtypeBack])
  refine Ev.bind (ev_cells6 l) ?_
  refine Ev.bind (ev_open (kids_few l)) ?_
  have hf := fine_open l
  have hlen : (fewL l).length ≤ 80 := by simp [fewL]; omega
  have hc := openT_cases (fewL l)
  generalize (openT (fewL l)) = o at *
  obtain ⟨t, e⟩ := o
  simp only at hf hc
  have hty := ev_Type hf
  by_cases h0 : chk 1 t = 0
  · have hi : isT 1 t = true := by
      unfold chk at h0
      by_cases h1 : (packT t).2 = 0
      · rw [if_pos h1] at h0
        by_cases h2 : 60 < deepT t
        · rw [if_pos h2] at h0; cases h0
        · rw [if_neg h2] at h0
          cases hi : isT 1 t with
          | false => rw [hi] at h0; cases h0
          | true => rfl
      · rw [if_neg h1] at h0; exact absurd h0 h1
    rcases hc with ⟨rfl, _⟩ | ⟨he, _, _, _, _, hw, _⟩
    · rw [isT_nil] at hi; cases hi
    · subst he
      obtain ⟨s, toks, q1, q2, q3⟩ := round_trip (by omega) hi
      rw [h0] at hty
      refine Ev.bind (a := (s, (0 : Int))) (Ev.congr (f := fun K => _) (Ev.bind hty (Ev.nF rfl (Ev.bind q1 Ev.pure))) (fun k => by rw [ptype_Write])) ?_
      refine Ev.nF rfl ?_
      refine Ev.nF rfl ?_
      refine Ev.bind q2 ?_
      refine Ev.bind q3 ?_
      show Ev (fun K => law06_PtypeBack_c0 K t toks 0 t ((toks.length : Nat) : Int) 0) true
      refine Ev.step (fun k => by rw [law06_PtypeBack_c0]) ?_
      refine Ev.dT rfl ?_
      refine Ev.dT rfl ?_
      refine Ev.dT rfl ?_
      refine Ev.bind (ev_asame t (by omega)) ?_
      refine Ev.isT rfl ?_
      exact Ev.bind ev_works6 Ev.pure
  · refine Ev.bind (a := (([] : List UInt8), chk 1 t)) (Ev.congr (f := fun K => _) (Ev.bind hty (Ev.nT h0 Ev.pure)) (fun k => by rw [ptype_Write])) ?_
    refine Ev.n (fun _ => ?_) (fun _ => ?_)
    · refine Ev.dT rfl ?_
      exact Ev.bind ev_works6 Ev.pure
    · refine Ev.nT h0 ?_
      refine Ev.dT rfl ?_
      exact Ev.bind ev_works6 Ev.pure
end Go.Proofs.YtojooakojnelbaaDoor

