/- Plain facts of layer 4 (arena), part 8: what stands at a path, what is put there, the paths of a kind. -/
import Derived.Test.YthkaeeadihplcaaPA7
namespace Go.Proofs.Ythkaeeadihplcaa
open Go Go.Am

def kidsOf : Tr → List Tr
  | .nil => []
  | .node _ _ _ _ ks => ks
/-- a kid, or nothing -/
def kidAt (t : Tr) (k : Int) : Tr := if 0 ≤ k then (kidsOf t).getD k.toNat .nil else .nil

instance decNil (t : Tr) : Decidable (t = .nil) := match t with
  | .nil => isTrue rfl
  | .node _ _ _ _ _ => isFalse (fun h => by cases h)

/-- What stands at a path: it, and 0; or nothing, and 21. -/
def atR : Tr → List Int → Tr × Int
  | t, [] => (t, 0)
  | t, k :: path => if kidAt t k = .nil then (.nil, 21) else atR (kidAt t k) path

def atT (t : Tr) (path : List Int) : Tr × Int := match t with
  | .nil => (.nil, 1)
  | t => atR t path

theorem kidAt_w {t : Tr} {k : Int} (h : kidAt t k ≠ .nil) : (kidAt t k).w < t.w := by
  unfold kidAt at h ⊢
  split at h
  · rename_i h0
    rw [if_pos h0]
    cases t with
    | nil => simp [kidsOf] at h
    | node a b nm mk ks =>
      simp only [kidsOf] at h ⊢
      rw [w_node]
      by_cases hl : k.toNat < ks.length
      · rw [List.getD_eq_getElem?_getD, List.getElem?_eq_getElem hl]
        have := wL_mem (List.getElem_mem hl)
        simp only [Option.getD_some]
        omega
      · rw [List.getD_eq_getElem?_getD, List.getElem?_eq_none (by omega)] at h
        exact absurd rfl h
  · exact absurd rfl h

theorem kidAt_neg {t : Tr} {k : Int} (h : k < 0) : kidAt t k = .nil := by unfold kidAt; rw [if_neg (by omega)]
theorem kidAt_big {a b : Int} {nm mk : List UInt8} {ks : List Tr} {k : Int} (h : (ks.length : Int) ≤ k) : kidAt (.node a b nm mk ks) k = .nil := by
  unfold kidAt
  split
  · simp only [kidsOf]
    rw [List.getD_eq_getElem?_getD, List.getElem?_eq_none (by omega)]; rfl
  · rfl
theorem kidAt_in {a b : Int} {nm mk : List UInt8} {ks : List Tr} {k : Int} (h0 : 0 ≤ k) (h : k.toNat < ks.length) : kidAt (.node a b nm mk ks) k = ks[k.toNat] := by
  unfold kidAt
  rw [if_pos h0]
  simp only [kidsOf]
  rw [List.getD_eq_getElem?_getD, List.getElem?_eq_getElem h]; rfl

theorem ev_at_loop {p : List Int} (hp : p.length ≤ 1099511627776) : ∀ (m i : Nat) (t : Tr), p.length = i + m → t ≠ .nil → Ev (fun K => arena_At_l0 K p t (i : Int)) (atR t (p.drop i)) := by
  intro m
  induction m with
  | zero =>
    intro i t hi ht
    rw [List.drop_of_length_le (by omega)]
    cases t with
    | nil => exact absurd rfl ht
    | node a b nm mk ks =>
      refine Ev.step (fun k => by rw [arena_At_l0]) ?_
      exact Ev.iteF (dec_f (by omega)) Ev.pure
  | succ m ih =>
    intro i t hi ht
    have hlt : i < p.length := by omega
    rw [drop_get hlt]
    cases t with
    | nil => exact absurd rfl ht
    | node a b nm mk ks =>
      refine Ev.step (fun k => by rw [arena_At_l0]) (Ev.iteT (dec_t (by omega)) (Ev.opt (getI_lt hlt) ?_))
      unfold atR
      refine Ev.ite (fun h => ?_) (fun h => ?_)
      · rw [if_pos (kidAt_neg (by simpa using h))]; exact Ev.pure
      simp only [decide_eq_true_eq] at h
      refine Ev.ite (fun h2 => ?_) (fun h2 => ?_)
      · rw [if_pos (kidAt_big (by simpa using h2))]; exact Ev.pure
      simp only [decide_eq_true_eq] at h2
      have hin : p[i].toNat < ks.length := by omega
      rw [kidAt_in (by omega) hin]
      refine Ev.opt (getI_int (by omega) hin) ?_
      have hg := getI_int (l := ks) (x := p[i]) (by omega) hin
      generalize ks[p[i].toNat] = x at *
      cases x with
      | nil => rw [if_pos rfl]; exact Ev.pure
      | node a' b' nm' mk' ks' =>
        rw [if_neg (by simp)]
        refine Ev.opt hg ?_
        rw [wrap_nat (by omega)]
        exact ih (i + 1) _ (by omega) (by simp)

theorem ev_at (t : Tr) {p : List Int} (hp : p.length ≤ 1099511627776) : Ev (fun K => arena_At K t p) (atT t p) := by
  unfold arena_At atT
  cases t with
  | nil => exact Ev.pure
  | node a b nm mk ks =>
    have := ev_at_loop hp p.length 0 (.node a b nm mk ks) (by omega) (by simp)
    simpa using this

theorem ev_rat_loop {p : List Int} (hp : p.length ≤ 1099511627776) : ∀ (m i : Nat) (t : Tr), p.length = i + m → t ≠ .nil → Ev (fun K => ref04_At_l0 K p t (i : Int)) (atR t (p.drop i)) := by
  intro m
  induction m with
  | zero =>
    intro i t hi ht
    rw [List.drop_of_length_le (by omega)]
    cases t with
    | nil => exact absurd rfl ht
    | node a b nm mk ks =>
      refine Ev.step (fun k => by rw [ref04_At_l0]) ?_
      exact Ev.iteF (dec_f (by omega)) Ev.pure
  | succ m ih =>
    intro i t hi ht
    have hlt : i < p.length := by omega
    rw [drop_get hlt]
    cases t with
    | nil => exact absurd rfl ht
    | node a b nm mk ks =>
      refine Ev.step (fun k => by rw [ref04_At_l0]) (Ev.iteT (dec_t (by omega)) (Ev.opt (getI_lt hlt) ?_))
      unfold atR
      refine Ev.ite (fun h => ?_) (fun h => ?_)
      · rw [if_pos (kidAt_neg (by simpa using h))]; exact Ev.pure
      simp only [decide_eq_true_eq] at h
      refine Ev.opt (getI_lt hlt) ?_
      refine Ev.ite (fun h2 => ?_) (fun h2 => ?_)
      · rw [if_pos (kidAt_big (by simpa using h2))]; exact Ev.pure
      simp only [decide_eq_true_eq] at h2
      have hin : p[i].toNat < ks.length := by omega
      rw [kidAt_in (by omega) hin]
      refine Ev.opt (getI_lt hlt) (Ev.opt (getI_int (by omega) hin) ?_)
      have hg := getI_int (l := ks) (x := p[i]) (by omega) hin
      generalize ks[p[i].toNat] = x at *
      cases x with
      | nil => rw [if_pos rfl]; exact Ev.pure
      | node a' b' nm' mk' ks' =>
        rw [if_neg (by simp)]
        refine Ev.opt (getI_lt hlt) (Ev.opt hg ?_)
        rw [wrap_nat (by omega)]
        exact ih (i + 1) _ (by omega) (by simp)

theorem ev_rat (t : Tr) {p : List Int} (hp : p.length ≤ 1099511627776) : Ev (fun K => ref04_At K t p) (atT t p) := by
  unfold ref04_At atT
  cases t with
  | nil => exact Ev.pure
  | node a b nm mk ks =>
    have := ev_rat_loop hp p.length 0 (.node a b nm mk ks) (by omega) (by simp)
    simpa using this

/-- A tree with another one at a path. -/
def putR : Tr → List Int → Tr → Tr
  | _, [], s => s
  | .nil, _ :: _, _ => .nil
  | .node a b nm mk ks, k :: path, s => .node a b nm mk (ks.set k.toNat (putR (kidAt (.node a b nm mk ks) k) path s))

def putT (t : Tr) (path : List Int) (s : Tr) : Tr × Int := if (atT t path).2 ≠ 0 then (.nil, (atT t path).2) else match s with
  | .nil => (.nil, 1)
  | s => (putR t path s, 0)

theorem at_cons {t : Tr} {k : Int} {path : List Int} (h : (atR t (k :: path)).2 = 0) : kidAt t k ≠ .nil ∧ (atR (kidAt t k) path).2 = 0 := by
  rw [atR] at h
  by_cases e : kidAt t k = .nil
  · rw [if_pos e] at h; cases h
  · rw [if_neg e] at h; exact ⟨e, h⟩

theorem sub_tail {k : Int} {path : List Int} : subL (k :: path) 1 ((((k :: path).length : Nat) : Int)) = some path := by
  have := subL_ok (l := k :: path) (a := 1) (b := (k :: path).length) (by simp) (Nat.le_refl _)
  rw [List.take_length] at this
  exact this

theorem ev_put : ∀ (p : List Int) (t s : Tr), p.length ≤ 1099511627776 → t.w ≤ 1099511627776 → t ≠ .nil → (atR t p).2 = 0 → Ev (fun K => arena_put K t p s) (putR t p s)
  | [], t, s, _, _, _, _ => by
    cases t with
    | nil =>
      refine Ev.step (fun k => by rw [arena_put]) ?_
      exact Ev.iteT rfl (Ev.pure' (by simp [putR]))
    | node =>
      refine Ev.step (fun k => by rw [arena_put]) ?_
      exact Ev.iteT rfl (Ev.pure' (by simp [putR]))
  | k :: path, t, s, hp, hw, ht, ha => by
    obtain ⟨h1, h2⟩ := at_cons ha
    have hkw := kidAt_w h1
    cases t with
    | nil => exact absurd rfl ht
    | node a b nm mk ks =>
      obtain ⟨_, hl⟩ := kids_big hw
      have h0 : 0 ≤ k := by
        by_cases h : 0 ≤ k
        · exact h
        · exact absurd (kidAt_neg (by omega)) h1
      have hin : k.toNat < ks.length := by
        by_cases h : k.toNat < ks.length
        · exact h
        · exact absurd (kidAt_big (by omega)) h1
      refine Ev.step (fun k => by rw [arena_put]) (Ev.iteF (dec_f (by simp; omega)) ?_)
      refine Ev.bind (a := ks) (by unfold slices_Clone_row; exact Ev.opt (appL_ok (by simp; omega)) (Ev.pure' (by simp))) ?_
      have e := kidAt_in (a := a) (b := b) (nm := nm) (mk := mk) h0 hin
      refine Ev.opt (a := k) rfl (Ev.opt (a := k) rfl (Ev.opt (getI_int h0 hin) (Ev.opt sub_tail ?_)))
      rw [← e]
      refine Ev.bind (ev_put path _ s (by simp at hp; omega) (by omega) h1 h2) (Ev.opt (getI_int h0 hin) (Ev.pure' ?_))
      rw [putR]

theorem ev_with_loop {a b : Int} {nm mk : List UInt8} {ks : List Tr} {k : Int} {path : List Int} {s y : Tr} (hl : ks.length ≤ 1099511627776) (h0 : 0 ≤ k) (hin : k.toNat < ks.length)
    (hy : Ev (fun K => ref04_With K ks[k.toNat] path s) y) : ∀ (m i : Nat), ks.length = i + m → Ev (fun K => ref04_With_l0 K (k :: path) s a b nm mk ks (i : Int) ((ks.set k.toNat y).take i)) (.node a b nm mk (ks.set k.toNat y)) := by
  intro m
  induction m with
  | zero =>
    intro i hi
    refine Ev.step (fun k => by rw [ref04_With_l0]) ?_
    exact Ev.iteF (dec_f (by omega)) (Ev.pure' (by rw [List.take_of_length_le (by simp; omega)]))
  | succ m ih =>
    intro i hi
    have hlt : i < ks.length := by omega
    have hlt' : i < (ks.set k.toNat y).length := by simpa using hlt
    have := ih (i + 1) (by omega)
    rw [take_get' hlt'] at this
    refine Ev.step (fun k => by rw [ref04_With_l0]) (Ev.iteT (dec_t (by omega)) (Ev.opt (getI_lt hlt) (Ev.opt (a := k) rfl ?_)))
    rw [wrap_nat (by omega)]
    refine Ev.ite (fun h => ?_) (fun h => ?_)
    · simp only [decide_eq_true_eq] at h
      have e : i = k.toNat := by omega
      subst e
      rw [List.getElem_set_self] at this
      exact Ev.opt sub_tail (Ev.bind hy (Ev.opt (appL_ok (by simp; omega)) this))
    · simp only [decide_eq_true_eq] at h
      rw [List.getElem_set_ne (by omega)] at this
      exact Ev.opt (appL_ok (by simp; omega)) this

theorem ev_with : ∀ (p : List Int) (t s : Tr), p.length ≤ 1099511627776 → t.w ≤ 1099511627776 → t ≠ .nil → (atR t p).2 = 0 → Ev (fun K => ref04_With K t p s) (putR t p s)
  | [], t, s, _, _, _, _ => by
    cases t with
    | nil =>
      refine Ev.step (fun k => by rw [ref04_With]) ?_
      exact Ev.iteT rfl (Ev.pure' (by simp [putR]))
    | node =>
      refine Ev.step (fun k => by rw [ref04_With]) ?_
      exact Ev.iteT rfl (Ev.pure' (by simp [putR]))
  | k :: path, t, s, hp, hw, ht, ha => by
    obtain ⟨h1, h2⟩ := at_cons ha
    have hkw := kidAt_w h1
    cases t with
    | nil => exact absurd rfl ht
    | node a b nm mk ks =>
      obtain ⟨_, hl⟩ := kids_big hw
      have h0 : 0 ≤ k := by
        by_cases h : 0 ≤ k
        · exact h
        · exact absurd (kidAt_neg (by omega)) h1
      have hin : k.toNat < ks.length := by
        by_cases h : k.toNat < ks.length
        · exact h
        · exact absurd (kidAt_big (by omega)) h1
      refine Ev.step (fun k => by rw [ref04_With]) (Ev.iteF (dec_f (by simp; omega)) ?_)
      have e := kidAt_in (a := a) (b := b) (nm := nm) (mk := mk) h0 hin
      have := ev_with path _ s (by simp at hp; omega) (by omega) h1 h2
      rw [e] at this
      have := ev_with_loop (a := a) (b := b) (nm := nm) (mk := mk) (s := s) hl h0 hin this ks.length 0 (by omega)
      rw [putR, e]
      simpa using this

theorem ev_Put {t : Tr} {p : List Int} {s : Tr} (hp : p.length ≤ 1099511627776) (hw : t.w ≤ 1099511627776) : Ev (fun K => arena_Put K t p s) (putT t p s) := by
  unfold arena_Put putT
  have h := ev_at t hp
  have ha : (atT t p).2 = 0 → t ≠ .nil ∧ (atR t p).2 = 0 := by
    cases t with
    | nil => intro h; simp [atT] at h
    | node => intro h; exact ⟨by simp, h⟩
  generalize atT t p = q at *
  obtain ⟨x, e⟩ := q
  simp only at ha ⊢
  refine Ev.bind h ?_
  by_cases he : e = 0
  · rw [if_neg (by simpa using he)]
    refine Ev.iteF (ndec_f he) ?_
    obtain ⟨h1, h2⟩ := ha he
    cases s with
    | nil => exact Ev.pure
    | node => exact Ev.bind (ev_put p t _ hp hw h1 h2) Ev.pure
  · rw [if_pos he]
    exact Ev.iteT (ndec_t he) Ev.pure

theorem ev_rPut {t : Tr} {p : List Int} {s : Tr} (hp : p.length ≤ 1099511627776) (hw : t.w ≤ 1099511627776) : Ev (fun K => ref04_Put K t p s) (putT t p s) := by
  unfold ref04_Put putT
  have h := ev_rat t hp
  have ha : (atT t p).2 = 0 → t ≠ .nil ∧ (atR t p).2 = 0 := by
    cases t with
    | nil => intro h; simp [atT] at h
    | node => intro h; exact ⟨by simp, h⟩
  generalize atT t p = q at *
  obtain ⟨x, e⟩ := q
  simp only at ha ⊢
  refine Ev.bind h ?_
  by_cases he : e = 0
  · rw [if_neg (by simpa using he)]
    refine Ev.iteF (ndec_f he) ?_
    obtain ⟨h1, h2⟩ := ha he
    cases s with
    | nil => exact Ev.pure
    | node => exact Ev.bind (ev_with p t _ hp hw h1 h2) Ev.pure
  · rw [if_pos he]
    exact Ev.iteT (ndec_t he) Ev.pure
end Go.Proofs.Ythkaeeadihplcaa
