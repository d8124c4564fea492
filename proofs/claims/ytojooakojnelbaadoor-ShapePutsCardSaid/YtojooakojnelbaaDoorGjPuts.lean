/- Joined texts: PLShapePuts, JShapePuts. -/
import Derived.Test.YtojooakojnelbaaDoorGs
import Derived.Test.YtojooakojnelbaaDoorGw
import Derived.Test.YtojooakojnelbaaDoorTie
import Derived.Test.YtojooakojnelbaaDoorCards
import Derived.SevenTiedAt
import Derived.Test.YtojooakojnelbaaDoorGn
/- The plain law ShapePuts: an expression put in the place of another one leaves a program; a type does not. -/
namespace Go.Proofs.YtojooakojnelbaaDoor
open Go Go.Am Go.Sx
theorem divI_rem {k : IntKind} {a b : Int} (h : b ≠ 0) : divI .rem k a b = some (a.tmod b) := by
  show (if b = 0 then none else some (a.tmod b)) = some (a.tmod b)
  rw [if_neg h]
/-- a number from 0 on, below the divisor -/
theorem twist (a b : Int) (hb : 0 < b) (hb' : b ≤ 1099511627776) : 0 ≤ (IntKind.i64.wrap (a.tmod b + b)).tmod b ∧ (IntKind.i64.wrap (a.tmod b + b)).tmod b < b := by
  have h1 := Int.tmod_lt_of_pos a hb
  have h2 := Int.lt_tmod_of_pos a hb
  rw [wrap_id (by omega) (by omega)]
  exact ⟨Int.tmod_nonneg _ (by omega), Int.tmod_lt_of_pos _ hb⟩

section
variable {x x' : Tr} (h1 : ∀ c, isT c x = true → isT c x' = true) (h2 : isT 8 x = true → nameOf x' = nameOf x) (h3 : isT 6 x = true → kindOf x' = kindOf x)
include h1 h2
theorem consGo_set : ∀ (l : List Tr) (s : List (List UInt8)) (i : Nat), consGo (isT 8) s l = true → l[i]? = some x → consGo (isT 8) s (l.set i x') = true
  | [], _, _, _, h => by simp at h
  | k :: ks, s, 0, h, hi => by
    have e : k = x := by simpa using hi
    subst e
    unfold consGo at h
    simp only [Bool.and_eq_true] at h
    rw [List.set_cons_zero]
    unfold consGo
    rw [h1 8 h.1, h2 h.1, h.2.1, h.2.2]; rfl
  | k :: ks, s, i + 1, h, hi => by
    unfold consGo at h
    simp only [Bool.and_eq_true] at h
    rw [List.set_cons_succ]
    unfold consGo
    rw [h.1, h.2.1, consGo_set ks _ i h.2.2 (by simpa using hi)]; rfl
include h3
theorem kidsS_set : ∀ (w : List UInt8) (l : List Tr) (i : Nat), kidsS isT w l = true → l[i]? = some x → kidsS isT w (l.set i x') = true
  | [], l, i, h, hi => by
    unfold kidsS at h
    rw [decide_eq_true_eq, List.length_eq_zero_iff] at h
    rw [h] at hi; simp at hi
  | c :: w, l, i, h, hi => by
    have hx := List.mem_of_getElem? hi
    unfold kidsS at h ⊢
    split
    · rename_i hc
      rw [if_pos hc] at h
      refine List.all_eq_true.2 fun y hy => ?_
      rcases List.mem_or_eq_of_mem_set hy with hy | rfl
      · exact List.all_eq_true.1 h y hy
      · have := List.all_eq_true.1 h x hx
        rw [Bool.and_eq_true] at this ⊢
        refine ⟨h1 _ this.1, ?_⟩
        by_cases e : w.headD 0 = 105
        · have h6 : isT 6 x = true := by have := this.1; rw [e] at this; exact this
          have := this.2
          unfold notI at this ⊢
          rw [h3 h6]; exact this
        · unfold notI
          rw [decide_eq_false e]; rfl
    · rename_i hc
      rw [if_neg hc] at h
      split
      · rename_i hc'
        rw [if_pos hc', Bool.and_eq_true] at h
        rw [consGo_set h1 h2 l [] i h.1 hi, List.length_set, h.2]; rfl
      · rename_i hc'
        rw [if_neg hc'] at h
        split
        · rename_i hc2
          rw [if_pos hc2, Bool.and_eq_true] at h
          rw [List.length_set, h.2, Bool.and_true]
          refine List.all_eq_true.2 fun y hy => ?_
          rcases List.mem_or_eq_of_mem_set hy with hy | rfl
          · exact List.all_eq_true.1 h.1 y hy
          · exact h1 _ (List.all_eq_true.1 h.1 x hx)
        · rename_i hc2
          rw [if_neg hc2] at h
          match l, i, hi, h with
          | [], _, hi, _ => simp at hi
          | k :: ks, 0, hi, h =>
            have e : k = x := by simpa using hi
            subst e
            simp only [Bool.and_eq_true] at h
            simp only [List.set_cons_zero]
            rw [h1 _ h.1, h.2]; rfl
          | k :: ks, i + 1, hi, h =>
            simp only [Bool.and_eq_true] at h
            simp only [List.set_cons_succ]
            rw [h.1, kidsS_set w ks i h.2 (by simpa using hi)]; rfl
end
section
variable {x x' : Tr} (h1 : ∀ c, isT c x = true → isT c x' = false)
include h1
theorem kidsS_not : ∀ (w : List UInt8) (l : List Tr) (i : Nat), kidsS isT w l = true → l[i]? = some x → kidsS isT w (l.set i x') = false
  | [], l, i, h, hi => by
    unfold kidsS at h
    rw [decide_eq_true_eq, List.length_eq_zero_iff] at h
    rw [h] at hi; simp at hi
  | c :: w, l, i, h, hi => by
    have hx := List.mem_of_getElem? hi
    have hx' : x' ∈ l.set i x' := by
      have hl : i < l.length := by
        rcases Nat.lt_or_ge i l.length with h | h
        · exact h
        · rw [List.getElem?_eq_none h] at hi; cases hi
      exact List.mem_set hl x'
    unfold kidsS at h ⊢
    split
    · rename_i hc
      rw [if_pos hc] at h
      have := List.all_eq_true.1 h x hx
      rw [Bool.and_eq_true] at this
      refine List.all_eq_false.2 ⟨x', hx', ?_⟩
      rw [h1 _ this.1]; simp
    · rename_i hc
      rw [if_neg hc] at h
      split
      · rename_i hc'
        rw [if_pos hc', Bool.and_eq_true] at h
        have h8 := h1 _ (consGo_mem l [] h.1 hx)
        cases hcg : consGo (isT 8) [] (l.set i x') with
        | false => rfl
        | true => rw [consGo_mem _ _ hcg hx'] at h8; cases h8
      · rename_i hc'
        rw [if_neg hc'] at h
        split
        · rename_i hc2
          rw [if_pos hc2, Bool.and_eq_true] at h
          have h9 := h1 _ (List.all_eq_true.1 h.1 x hx)
          have : (l.set i x').all (isT 9) = false := List.all_eq_false.2 ⟨x', hx', by rw [h9]; simp⟩
          rw [this]; rfl
        · rename_i hc2
          rw [if_neg hc2] at h
          match l, i, hi, h with
          | [], _, hi, _ => simp at hi
          | k :: ks, 0, hi, h =>
            have e : k = x := by simpa using hi
            subst e
            simp only [Bool.and_eq_true] at h
            simp only [List.set_cons_zero]
            rw [h1 _ h.1]; rfl
          | k :: ks, i + 1, hi, h =>
            simp only [Bool.and_eq_true] at h
            simp only [List.set_cons_succ]
            rw [kidsS_not w ks i h.2 (by simpa using hi), Bool.and_false]
end

/-- a row's kids that are told one by one -/
def plainW (w : List UInt8) : Bool := w.all fun c => !decide (c = 42) && (!decide (c = 67) && !decide (c = 65))
theorem plain_len {is : Int → Tr → Bool} : ∀ (w : List UInt8) (l : List Tr), plainW w = true → kidsS is w l = true → l.length = w.length
  | [], l, _, h => by
    unfold kidsS at h
    rw [decide_eq_true_eq] at h
    simpa using h
  | c :: w, l, hp, h => by
    unfold plainW at hp
    rw [List.all_cons, Bool.and_eq_true] at hp
    simp only [Bool.and_eq_true, Bool.not_eq_true', decide_eq_false_iff_not] at hp
    unfold kidsS at h
    rw [if_neg hp.1.1, if_neg hp.1.2.1, if_neg hp.1.2.2] at h
    cases l with
    | nil => cases h
    | cons k ks =>
      simp only [Bool.and_eq_true] at h
      rw [List.length_cons, List.length_cons, plain_len w ks (by unfold plainW; exact hp.2) h.2]
theorem rows_alike : ∀ r ∈ rows5, ∀ r' ∈ rows5, r.1 = r'.1 → r.2.1 = r'.2.1 → r.2.2.2.2.2.2 = r'.2.2.2.2.2.2 ∨ (plainW r.2.2.2.2.2.2 = true ∧ plainW r'.2.2.2.2.2.2 = true ∧ r.2.2.2.2.2.2.length ≠ r'.2.2.2.2.2.2.length) := by decide +kernel
theorem isT_iff {c k n : Int} {nm mk : List UInt8} {ks : List Tr} : isT c (.node k n nm mk ks) = true ↔ ∃ r ∈ rows5, r.1 = c ∧ r.2.1 = k ∧ bodyS isT n nm mk ks r = true := by
  rw [isT_eq, List.any_eq_true]
  simp only [rowS, Bool.and_eq_true, decide_eq_true_eq]
theorem cat22 {c : Int} {t : Tr} (h : isT c t = true) (hk : kindOf t = 22) : c = 2 := by
  have := (isT_cat h).1
  rw [hk] at this
  rw [← this]; rfl
theorem putR_cons {a b : Int} {nm mk : List UInt8} {ks : List Tr} {k : Int} {q : List Int} {s : Tr} (h0 : 0 ≤ k) (hin : k.toNat < ks.length) :
    putR (.node a b nm mk ks) (k :: q) s = .node a b nm mk (ks.set k.toNat (putR ks[k.toNat] q s)) := by
  rw [putR, kidAt_in h0 hin]
/-- an expression in the place of another one -/
theorem put_is {s : Tr} (hs : isT 2 s = true) : ∀ (p : List Int) (t : Tr) (c : Int), isT c t = true → (atR t p).2 = 0 → kindOf (atR t p).1 = 22 →
    isT c (putR t p s) = true ∧ (p ≠ [] → nameOf (putR t p s) = nameOf t ∧ kindOf (putR t p s) = kindOf t)
  | [], t, c, h, _, hk => by
    rw [atR] at hk
    have := cat22 h hk
    subst this
    refine ⟨?_, fun h => absurd rfl h⟩
    rw [putR]; exact hs
  | k :: q, t, c, h, ha, hk => by
    obtain ⟨a, b, nm, mk, ks, rfl, h0, hin, hne, ha'⟩ := at_form ha
    rw [atR, if_neg hne, kidAt_in h0 hin] at hk
    rw [kidAt_in h0 hin] at ha'
    rw [putR_cons h0 hin]
    refine ⟨?_, fun _ => ⟨rfl, rfl⟩⟩
    have ih := fun c' (h' : isT c' ks[k.toNat] = true) => put_is hs q ks[k.toNat] c' h' ha' hk
    have qn : ∀ c', c' ≠ 2 → isT c' ks[k.toNat] = true → q ≠ [] := fun c' hc h' e => by
      subst e
      rw [atR] at hk
      exact hc (cat22 h' hk)
    obtain ⟨r, hr, e1, e2, hb⟩ := isT_iff.1 h
    refine isT_iff.2 ⟨r, hr, e1, e2, ?_⟩
    simp only [bodyS, Bool.and_eq_true] at hb ⊢
    refine ⟨hb.1, hb.2.1, hb.2.2.1, hb.2.2.2.1, ?_⟩
    exact kidsS_set (fun c' h' => (ih c' h').1) (fun h' => ((ih 8 h').2 (qn 8 (by decide) h')).1) (fun h' => ((ih 6 h').2 (qn 6 (by decide) h')).2) _ ks k.toNat hb.2.2.2.2 (List.getElem?_eq_getElem hin)
/-- a type in the place of an expression -/
theorem put_not {u : Tr} (hu : isT 2 u = false) : ∀ (p : List Int) (t : Tr) (c : Int), isT c t = true → (atR t p).2 = 0 → kindOf (atR t p).1 = 22 → isT c (putR t p u) = false
  | [], t, c, h, _, hk => by
    rw [atR] at hk
    have := cat22 h hk
    subst this
    rw [putR]; exact hu
  | k :: q, t, c, h, ha, hk => by
    obtain ⟨a, b, nm, mk, ks, rfl, h0, hin, hne, ha'⟩ := at_form ha
    rw [atR, if_neg hne, kidAt_in h0 hin] at hk
    rw [kidAt_in h0 hin] at ha'
    rw [putR_cons h0 hin]
    have ih := fun c' (h' : isT c' ks[k.toNat] = true) => put_not hu q ks[k.toNat] c' h' ha' hk
    obtain ⟨r, hr, e1, e2, hb⟩ := isT_iff.1 h
    cases hx : isT c (.node a b nm mk (ks.set k.toNat (putR ks[k.toNat] q u))) with
    | false => rfl
    | true =>
      obtain ⟨r', hr', e1', e2', hb'⟩ := isT_iff.1 hx
      simp only [bodyS, Bool.and_eq_true] at hb hb'
      have hn := kidsS_not ih _ ks k.toNat hb.2.2.2.2 (List.getElem?_eq_getElem hin)
      rcases rows_alike r hr r' hr' (e1.trans e1'.symm) (e2.trans e2'.symm) with e | ⟨g1, g2, g3⟩
      · rw [e, hb'.2.2.2.2] at hn; cases hn
      · have l1 := plain_len _ _ g1 hb.2.2.2.2
        have l2 := plain_len _ _ g2 hb'.2.2.2.2
        rw [List.length_set] at l2
        omega
theorem put_good {s : Tr} (hs : Good s) : ∀ (p : List Int) (t : Tr), Good t → (atR t p).2 = 0 → Good (putR t p s)
  | [], t, _, _ => by rw [putR]; exact hs
  | k :: q, t, h, ha => by
    obtain ⟨a, b, nm, mk, ks, rfl, h0, hin, _, ha'⟩ := at_form ha
    rw [kidAt_in h0 hin] at ha'
    rw [putR_cons h0 hin]
    cases h with
    | mk g1 g2 g3 g4 =>
      refine .mk g1 g2 (by rw [List.length_set]; exact g3) fun y hy => ?_
      rcases List.mem_or_eq_of_mem_set hy with hy | rfl
      · exact g4 y hy
      · exact put_good hs q _ (g4 _ (List.getElem_mem hin)) ha'
theorem deepL_set : ∀ (l : List Tr) (i d d' : Nat) (y : Tr) (h : i < l.length), d ≤ d' → deepT y ≤ deepT l[i] → deepL (l.set i y) d ≤ deepL l d'
  | k :: l, 0, d, d', y, _, hd, hy => by
    rw [List.set_cons_zero, deepL_cons, deepL_cons]
    have hy' : deepT y ≤ deepT k := hy
    have mono : ∀ (l : List Tr) (d d' : Nat), d ≤ d' → deepL l d ≤ deepL l d' := by
      intro l
      induction l with
      | nil => intro d d' h; rw [deepL_nil, deepL_nil]; exact h
      | cons x l ih => intro d d' h; rw [deepL_cons, deepL_cons]; exact ih _ _ (by omega)
    exact mono l _ _ (by omega)
  | k :: l, i + 1, d, d', y, h, hd, hy => by
    rw [List.set_cons_succ, deepL_cons, deepL_cons]
    exact deepL_set l i _ _ y (by simpa using h) (by omega) (by simpa using hy)
theorem put_deep {u : Tr} : ∀ (p : List Int) (t : Tr), (atR t p).2 = 0 → deepT u ≤ deepT (atR t p).1 → deepT (putR t p u) ≤ deepT t
  | [], t, _, h => by rw [atR] at h; rw [putR]; exact h
  | k :: q, t, ha, h => by
    obtain ⟨a, b, nm, mk, ks, rfl, h0, hin, hne, ha'⟩ := at_form ha
    rw [atR, if_neg hne, kidAt_in h0 hin] at h
    rw [kidAt_in h0 hin] at ha'
    rw [putR_cons h0 hin, deepT_node, deepT_node]
    have := deepL_set ks k.toNat 0 0 (putR ks[k.toNat] q u) hin (Nat.le_refl _) (put_deep q _ ha' h)
    omega
theorem open_size (l : List Cell) (h : (openT (fewL l)).2 = 0) : sizeT (openT (fewL l)).1 ≤ 80 := by
  rcases openT_cases (fewL l) with ⟨_, h2⟩ | ⟨_, _, _, _, h5, _⟩
  · exact absurd h h2
  · rw [h5]; exact fewL_len l
theorem isT_leaf3 : isT 2 (leaf 3) = false := isT_none (by simp [show kindsOf 2 = [20, 21, 22, 23, 24, 25, 26, 27, 28, 29, 30, 31, 32, 33] from rfl])

theorem ev_puts_c0 {n s : Tr} (which : Int) (hn : Look n) (hs : Look s) (sn : sizeT n ≤ 80) (ss : sizeT s ≤ 80) (in' : isT 7 n = true) (is' : isT 2 s = true) (hl : pathsT 22 n ≠ []) :
    Ev (fun K => law05_ShapePuts_c0 K which n s (pathsT 22 n)) true := by
  have hlen := pathsT_len 22 n
  have hw := full_w n (good_full n hn.2.1)
  have hpos : 0 < (pathsT 22 n).length := List.length_pos_iff.2 hl
  obtain ⟨q0, q1⟩ := twist which ((pathsT 22 n).length : Int) (by omega) (by omega)
  refine Ev.step (fun k => by rw [law05_ShapePuts_c0]) ?_
  refine Ev.opt (divI_rem (by omega)) (Ev.opt (divI_rem (by omega)) ?_)
  generalize (IntKind.i64.wrap (which.tmod ((pathsT 22 n).length : Int) + ((pathsT 22 n).length : Int))).tmod ((pathsT 22 n).length : Int) = j at *
  have hj : j.toNat < (pathsT 22 n).length := by omega
  refine Ev.opt (getI_int q0 hj) ?_
  have hm := List.getElem_mem hj
  generalize (pathsT 22 n)[j.toNat] = p at *
  have hd := pathsT_deep 22 n p hm
  obtain ⟨a1, a2, a3⟩ := paths_at 22 n p hm
  have hk : kindOf (atR n p).1 = 22 := by omega
  have hat : (atT n p).2 = 0 := by
    cases n with
    | nil => rw [isT_nil] at in'; cases in'
    | node => exact a1
  have e1 : ∀ u, Good u → putT n p u = (putR n p u, 0) := fun u hu => by
    unfold putT
    rw [if_neg (by rw [hat]; simp)]
    cases hu; rfl
  have pm := ev_Put (t := n) (p := p) (s := s) (by omega) (by omega)
  rw [e1 s hs.2.1] at pm
  have po := ev_Put (t := n) (p := p) (s := leaf 3) (by omega) (by omega)
  rw [e1 _ (good_leaf 3)] at po
  refine Ev.bind pm (Ev.bind po (Ev.nF rfl (Ev.nF rfl ?_)))
  have gm := put_good hs.2.1 p n hn.2.1 a1
  have go := put_good (good_leaf 3) p n hn.2.1 a1
  have sm := put_size p n s a1
  have so := put_size p n (leaf 3) a1
  have s3 : sizeT (leaf 3) = 1 := by simp [sizeT_node, sizeL_nil]
  have wm := full_w _ (good_full _ gm)
  have wo := full_w _ (good_full _ go)
  have im := (put_is is' p n 7 in' a1 hk).1
  have io := put_not isT_leaf3 p n 7 in' a1 hk
  have d3 : deepT (leaf 3) = 1 := by simp [deepT_node, deepL_nil]
  have dx : 1 ≤ deepT (atR n p).1 := by
    cases hx : (atR n p).1 with
    | nil => exact absurd hx a2
    | node => rw [deepT_node]; omega
  have dd := put_deep (u := leaf 3) p n a1 (by omega)
  have fm : Fine (putR n p s) := ⟨by omega, fun _ => gm⟩
  have fo : Fine (putR n p (leaf 3)) := ⟨by omega, fun _ => go⟩
  have dn := hn.2.2.2
  have co : chk 7 (putR n p (leaf 3)) = 16 := by
    rw [chk_small (good_full _ go) (by omega) (by omega), io]; rfl
  have cm : chk 7 (putR n p s) = if 60 < deepT (putR n p s) then 7 else 0 := by
    have e : packT (putR n p s) = (cellsT (putR n p s) 0, 0) := by unfold packT; rw [if_pos (good_full _ gm), if_neg (by omega)]
    unfold chk
    rw [e, if_pos rfl, if_pos im]
  have fin : Ev (fun K => (shape_Prog K (putR n p (leaf 3))).bind fun v25 => iteS (decide (v25 = 16)) ((law05_works K).bind fun v26 => some v26) (some false)) true :=
    Ev.bind (ev_Prog fo) (Ev.dT co (Ev.ret ev_works))
  refine Ev.bind (ev_Prog fm) ?_
  rw [cm]
  by_cases h6 : 60 < deepT (putR n p s)
  · rw [if_pos h6]
    refine Ev.dF (by decide) (Ev.dT rfl (Ev.bind (ev_deep _ fm.1) (Ev.isT ?_ fin)))
    rw [decide_eq_true (show (60 : Int) < ((deepT (putR n p s) : Nat) : Int) by omega)]; rfl
  · rw [if_neg h6]
    refine Ev.dT rfl (Ev.bind (ev_deep _ fm.1) (Ev.isT ?_ fin))
    rw [decide_eq_false (show ¬ (60 : Int) < ((deepT (putR n p s) : Nat) : Int) by omega)]; rfl

theorem law05_ShapePuts_true (l : List Cell) (which : Int) (l' : List Cell) : ∃ K, law05_ShapePuts K l which l' = some true := by
  refine Ev.get (f := fun K => law05_ShapePuts K l which l') ?_
  refine Ev.congr (f := fun K => _) ?_ (fun k => by rw [law05_ShapePuts])
  refine Ev.bind (ev_few l) (Ev.bind (ev_open (kids_few l)) ?_)
  have hf := fine_open l
  have hz := open_size l
  generalize (openT (fewL l)) = o at *
  obtain ⟨n, e⟩ := o
  refine Ev.bind (ev_few l') (Ev.bind (ev_open (kids_few l')) ?_)
  have hf' := fine_open l'
  have hz' := open_size l'
  generalize (openT (fewL l')) = o at *
  obtain ⟨s, f⟩ := o
  simp only at hf hf' hz hz'
  refine Ev.n (fun _ => Ev.ret ev_works) (fun he => Ev.n (fun _ => Ev.ret ev_works) (fun hf0 => ?_))
  refine Ev.bind (ev_Prog hf) (Ev.n (fun _ => Ev.ret ev_works) (fun c1 => ?_))
  refine Ev.bind (ev_Expr hf') (Ev.n (fun _ => Ev.ret ev_works) (fun c2 => ?_))
  refine Ev.bind (ev_paths hf.1) (Ev.d (fun _ => Ev.ret ev_works) (fun hp => ?_))
  obtain ⟨i1, i2, i3⟩ := chk_zero c1
  obtain ⟨j1, j2, j3⟩ := chk_zero c2
  exact ev_puts_c0 which (look_of hf i2 i3) (look_of hf' j2 j3) (hz he) (hz' hf0) i1 j1 (fun h => hp (by rw [h]; rfl))
end Go.Proofs.YtojooakojnelbaaDoor

/- The law ShapePuts answers true whatever it is handed, and leaves what it is handed as it was; the listed variables of Go's library stand as the program's text lays them: the given card. -/
namespace Go.Proofs.YtojooakojnelbaaDoor
open Go Go.Am Go.Sx Go.ChangeShapes Go.WideShapes Go.ChangeAt Go.RowKit
set_option maxRecDepth 100000 in
theorem law05_ShapePuts_lifted (os : Os) (started : os.Started) (H : Type) (enc : TypeId × Value → H) :
    ReturnsInHanded {} Tryd.checked os 7 .any (fun w args => (Rows.shapePutsSpec.pre enc Tryd.prog Tryd.f7 [] false w args ∧ laidMetH Tryd.prog laidL w) ∧ sizedMet enc Tryd.prog Tryd.f7 (OpenSpec.ofChange Rows.shapePutsSpec) false w args)
      (Rows.shapePutsSpec.post enc Tryd.prog Tryd.f7 false true false false) :=
  law_laid (C := Tryd.checked) (tb := 4) own started (by kernel_rfl) Tryd.func7
    (ChangeSpec.witness_shaped (enc := enc) (C := Tryd.checked) (os := os) (X := fun w _ => laidMetH Tryd.prog laidL w) false (laidWorld os) #[.agg #[(.slice none 0 0)], .int .i64 0, .agg #[(.slice none 0 0)]] 8 rfl (door_shaped os _) (by kernel_rfl) (by kernel_rfl) (by kernel_rfl) (door_met os _))
    kids full (by decide) rfl und4 rfl
    (fun ds h => match ds, h with | [d0, d1, d2], _ => ⟨rfl, rfl, rfl⟩)
    tabs_laid (args_cons arg_tree (args_cons arg_i64 (args_cons arg_tree args_nil)))
    (fun x hx => by
      obtain ⟨K, hK⟩ := law05_ShapePuts_true x.1 x.2.1 x.2.2.1
      exact ((law05_ShapePuts_ok K).ok (fun _ => 0) (x.1, x.2.1, x.2.2.1) true hK).mono (by rintro av s ⟨ids', _, rfl, rfl⟩; exact ⟨rfl, rfl⟩))

theorem law05_ShapePuts_row : Rows.ShapePutsSaid :=
  OpenClaim.holds_of_wide 7 Tryd.f7 rfl rfl rfl rfl rfl rfl rfl ⟨rfl, rfl, rfl, rfl, rfl⟩ rfl rfl rfl rfl rfl (by kernel_rfl) Tryd.func7 (by kernel_rfl)
    (of_decide_eq_true (by kernel_rfl)) (by unfold Func.isWrapper; first | (rw [if_pos (by decide +kernel)]; kernel_rfl) | (rw [if_neg (by decide +kernel)]; exact ⟨rfl, rfl⟩))
    (fun os started H enc _ => law05_ShapePuts_lifted os started H enc)

theorem law05_ShapePuts_said : Rows.ShapePutsCardSaid :=
  Claim7.holds_tied_plain_at .later [] [.data, .pinned] true (true, "052dddd592b64fe42d9c25e56dc379100a74d7a094aaa0264113faccbe8a04f4") false
    law05_ShapePuts_row (fun _ h => by cases h) (by kernel_rfl) (fun _ h => by cases h) shapePuts_row_tie rfl ⟨rfl, rfl⟩ (by kernel_rfl) rfl
    (fun f fn hf hfn => by
      obtain rfl : f = 7 := Option.some.inj ((show Tryd.prog.funcNamed "marquetry/marquetrylaw05.ShapePuts" = some 7 by kernel_rfl).symm.trans hf) |>.symm
      obtain rfl : fn = Tryd.f7 := (Option.some.inj (Tryd.func7.symm.trans hfn)).symm
      exact ⟨by kernel_rfl, fun j t ht => by
        rw [Tryd.params7] at ht
        have h3 : t = 3 ∨ t = 24 := by
          rcases j with _ | j
          · have e : t = 24 := by simpa using ht.symm
            exact .inr e
          rcases j with _ | j
          · have e : t = 3 := by simpa using ht.symm
            exact .inl e
          rcases j with _ | j
          · have e : t = 24 := by simpa using ht.symm
            exact .inr e
          simp at ht
        rcases h3 with rfl | rfl
        · exact (show Tryd.prog.wantsStandIn 3 = false by kernel_rfl)
        · exact (show Tryd.prog.wantsStandIn 24 = false by kernel_rfl)⟩)
    (by kernel_rfl)
end Go.Proofs.YtojooakojnelbaaDoor

