/- Joined texts: L1, L2, L3. -/
import Derived.Test.YtnogkihchgnbcaaGreatDoorGv
/- The lexer, piece by piece: spans of runes, comments, what may be read. -/
namespace Go.Proofs.YtnogkihchgnbcaaGreatDoor
open Go Go.Am Go.Sx
theorem rune_ind {P : List UInt8 → Prop} (h0 : P []) (h1 : ∀ s, s ≠ [] → P (s.drop (dc s).2) → P s) : ∀ s, P s := by
  have : ∀ n s, s.length ≤ n → P s := by
    intro n
    induction n with
    | zero =>
      intro s h
      obtain rfl := List.length_eq_zero_iff.1 (Nat.le_zero.1 h)
      exact h0
    | succ n ih =>
      intro s h
      by_cases e : s = []
      · subst e; exact h0
      · have := dc_width s
        exact h1 s e (ih _ (by rw [List.length_drop]; omega))
  exact fun s => this _ s (Nat.le_refl _)
/-- how many bytes at the head are runes of which something is true -/
def spF (p : Int → Bool) : Nat → List UInt8 → Nat
  | 0, _ => 0
  | n + 1, s => if s = [] then 0 else if p (((dc s).1 : Nat) : Int) = true then (dc s).2 + spF p n (s.drop (dc s).2) else 0
theorem spF_fuel (p : Int → Bool) : ∀ (n m : Nat) (s : List UInt8), s.length ≤ n → s.length ≤ m → spF p n s = spF p m s := by
  intro n
  induction n with
  | zero =>
    intro m s h _
    obtain rfl := List.length_eq_zero_iff.1 (Nat.le_zero.1 h)
    cases m <;> simp [spF]
  | succ n ih =>
    intro m s h h'
    cases m with
    | zero =>
      obtain rfl := List.length_eq_zero_iff.1 (Nat.le_zero.1 h')
      simp [spF]
    | succ m =>
      have hw := dc_width s
      unfold spF
      by_cases e : s = []
      · rw [if_pos e, if_pos e]
      · rw [if_neg e, if_neg e, ih m (s.drop (dc s).2) (by rw [List.length_drop]; omega) (by rw [List.length_drop]; omega)]
def sp (p : Int → Bool) (s : List UInt8) : Nat := spF p s.length s
section
variable {p : Int → Bool}
theorem sp_nil : sp p [] = 0 := rfl
theorem sp_step {s : List UInt8} (h : s ≠ []) : sp p s = if p (((dc s).1 : Nat) : Int) = true then (dc s).2 + sp p (s.drop (dc s).2) else 0 := by
  have hw := dc_width s
  have : 1 ≤ s.length := by cases s with | nil => exact absurd rfl h | cons => simp
  have e : sp p s = spF p ((s.length - 1) + 1) s := spF_fuel p _ _ s (Nat.le_refl _) (by omega)
  rw [e]
  show (if s = [] then 0 else _) = _
  rw [if_neg h]
  unfold sp
  rw [spF_fuel p (s.length - 1) _ (s.drop (dc s).2) (by rw [List.length_drop]; omega) (Nat.le_refl _)]
theorem sp_le : ∀ s, sp p s ≤ s.length := by
  refine rune_ind (Nat.le_refl _) fun s h ih => ?_
  rw [sp_step h]
  have := dc_le h
  rw [List.length_drop] at ih
  split <;> omega
theorem sp_pos {s : List UInt8} (h : s ≠ []) : (p (((dc s).1 : Nat) : Int) = true → 1 ≤ sp p s) ∧ (p (((dc s).1 : Nat) : Int) = false → sp p s = 0) := by
  rw [sp_step h]
  have := dc_width s
  exact ⟨fun e => by rw [if_pos e]; omega, fun e => by rw [if_neg (by rw [e]; decide)]⟩
theorem ev_sp {L : Nat → List UInt8 → List UInt8 → Int → Option Int} {f : Nat → Int → Option Bool}
    (hL : ∀ k s w i, L (k + 1) s w i = iteS (decide ((i : Int).toNat < w.length)) ((f k (((runeAt w ((i : Int).toNat)).1 : Nat) : Int)).bind fun v2 => (iteS (!v2) (some (((i : Int).toNat : Nat) : Int)) (L k s w (((i : Int).toNat + (runeAt w ((i : Int).toNat)).2 : Nat) : Int)))) (some ((s.length : Nat) : Int)))
    (hf : ∀ r, Ev (fun K => f K r) (p r)) (s : List UInt8) : Ev (fun K => L K s s 0) ((sp p s : Nat) : Int) := by
  have gen : ∀ t, ∀ i : Nat, s.drop i = t → i ≤ s.length → Ev (fun K => L K s s (i : Int)) ((i + sp p t : Nat) : Int) := by
    refine rune_ind ?_ ?_
    · intro i hd hi
      have : s.length ≤ i := List.drop_eq_nil_iff.1 hd
      refine Ev.step (fun k => hL k _ _ _) ?_
      refine Ev.dF (by simp only [Int.toNat_natCast]; omega) (Ev.pure' ?_)
      rw [sp_nil]; omega
    · intro t ht ih i hd hi
      have hl := congrArg List.length hd
      rw [List.length_drop] at hl
      have h1 : 1 ≤ t.length := by cases t with | nil => exact absurd rfl ht | cons => simp
      have hle := dc_le ht
      refine Ev.step (fun k => hL k _ _ _) ?_
      simp only [Int.toNat_natCast, runeAt_dc]
      rw [hd]
      refine Ev.dT (by omega) ?_
      refine Ev.bind (hf _) ?_
      rw [sp_step ht]
      cases hp : p (((dc t).1 : Nat) : Int) with
      | true =>
        refine Ev.isF rfl ?_
        rw [if_pos rfl, ← Nat.add_assoc]
        exact ih (i + (dc t).2) (by rw [← List.drop_drop, hd]) (by omega)
      | false =>
        refine Ev.isT rfl ?_
        rw [if_neg (by decide)]
        exact Ev.pure
  have := gen s 0 rfl (Nat.zero_le _)
  rw [Nat.zero_add] at this
  exact this
end
abbrev blR : Int → Bool := fun r => decide (cls r = 3)
abbrev dgR : Int → Bool := fun r => decide (cls r = 2)
theorem ev_spB (s : List UInt8) : Ev (fun K => lexer_span K s) ((sp blR s : Nat) : Int) :=
  Ev.congr (f := fun K => _) (ev_sp (L := lexer_span_l0) (f := lexer_Lex_1) (fun k s w i => by rw [lexer_span_l0]) ev_blank s) (fun K => by rw [lexer_span])
theorem ev_spI (s : List UInt8) : Ev (fun K => lexer_span_2 K s) ((sp inn s : Nat) : Int) :=
  Ev.congr (f := fun K => _) (ev_sp (L := lexer_span_2_l0) (f := lexer_inner) (fun k s w i => by rw [lexer_span_2_l0]) ev_inner s) (fun K => by rw [lexer_span_2])
theorem ev_spD (s : List UInt8) : Ev (fun K => lexer_span_3 K s) ((sp dgR s : Nat) : Int) :=
  Ev.congr (f := fun K => _) (ev_sp (L := lexer_span_3_l0) (f := lexer_number_1) (fun k s w i => by rw [lexer_span_3_l0]) ev_digit s) (fun K => by rw [lexer_span_3])
/-! ### comments -/
/-- where a comment ends: 0: nowhere -/
def cmF : Nat → Nat → List UInt8 → Nat → Nat
  | 0, _, _, _ => 0
  | n + 1, d, s, i => if s = [] then 0 else if List.isPrefixOf [40, 42] s = true then cmF n (d + 1) (s.drop 2) (i + 2) else if List.isPrefixOf [42, 41] s = true then (if d = 1 then i + 2 else cmF n (d - 1) (s.drop 2) (i + 2)) else cmF n d (s.drop 1) (i + 1)
def cmt (s : List UInt8) : Nat := cmF (s.length + 1) 0 s 0
theorem pre2_len {a b : UInt8} {s : List UInt8} (h : List.isPrefixOf [a, b] s = true) : ∃ t, s = a :: b :: t := by
  obtain ⟨t, ht⟩ := List.isPrefixOf_iff_prefix.1 h
  exact ⟨t, by rw [← ht]; rfl⟩
theorem cmF_bd : ∀ (n d : Nat) (s : List UInt8) (i : Nat), cmF n d s i ≠ 0 → i + 2 ≤ cmF n d s i ∧ cmF n d s i ≤ i + s.length := by
  intro n
  induction n with
  | zero => intro d s i h; exact absurd rfl h
  | succ n ih =>
    intro d s i
    unfold cmF
    by_cases e : s = []
    · rw [if_pos e]; exact fun h => absurd rfl h
    rw [if_neg e]
    have h1 : 1 ≤ s.length := by cases s with | nil => exact absurd rfl e | cons => simp
    by_cases h2 : List.isPrefixOf [40, 42] s = true
    · rw [if_pos h2]
      intro h
      have := ih _ _ _ h
      obtain ⟨t, rfl⟩ := pre2_len h2
      simp only [List.length_drop, List.length_cons] at this ⊢
      omega
    rw [if_neg h2]
    by_cases h3 : List.isPrefixOf [42, 41] s = true
    · rw [if_pos h3]
      obtain ⟨t, rfl⟩ := pre2_len h3
      by_cases hd : d = 1
      · rw [if_pos hd]; intro _; simp only [List.length_cons]; omega
      · rw [if_neg hd]
        intro h
        have := ih _ _ _ h
        simp only [List.length_drop, List.length_cons] at this ⊢
        omega
    · rw [if_neg h3]
      intro h
      have := ih _ _ _ h
      rw [List.length_drop] at this
      omega
theorem ev_cm_loop (s : List UInt8) (hs : s.length ≤ 2000000) : ∀ (n d i : Nat), s.length - i + 1 ≤ n → i ≤ s.length → d ≤ i → (d = 0 → List.isPrefixOf [40, 42] (s.drop i) = true) → Ev (fun K => lexer_comment_l0 K s (d : Int) (i : Int)) ((cmF n d (s.drop i) i : Nat) : Int) := by
  intro n
  induction n with
  | zero => intro d i h; omega
  | succ n ih =>
    intro d i hn hi hdi h0
    refine Ev.step (fun k => by rw [lexer_comment_l0]) ?_
    unfold cmF
    by_cases e : s.drop i = []
    · rw [if_pos e]
      have : s.length ≤ i := List.drop_eq_nil_iff.1 e
      exact Ev.dF (by omega) Ev.pure
    rw [if_neg e]
    have hlt : i < s.length := by
      have := mt List.drop_eq_nil_iff.2 e
      omega
    have hsub := subD (l := s) (a := i) hi
    refine Ev.dT (by omega) ?_
    refine Ev.opt hsub ?_
    refine Ev.bind (ev_prefix _ _) ?_
    by_cases h2 : List.isPrefixOf [40, 42] (s.drop i) = true
    · rw [if_pos h2, h2]
      refine Ev.isT rfl ?_
      obtain ⟨t, ht⟩ := pre2_len h2
      have hl := congrArg List.length ht
      rw [List.length_drop, List.length_cons, List.length_cons] at hl
      rw [wrap_nat (by omega), wrap_id (by omega) (by omega), show (i : Int) + 2 = ((i + 2 : Nat) : Int) by omega, List.drop_drop]
      exact ih (d + 1) (i + 2) (by omega) (by omega) (by omega) (fun h => by omega)
    rw [if_neg h2, (Bool.not_eq_true _).mp h2]
    refine Ev.isF rfl ?_
    refine Ev.opt hsub ?_
    refine Ev.bind (ev_prefix _ _) ?_
    have hd1 : d ≠ 0 := fun h => h2 (h0 h)
    by_cases h3 : List.isPrefixOf [42, 41] (s.drop i) = true
    · rw [if_pos h3, h3]
      refine Ev.isT rfl ?_
      obtain ⟨t, ht⟩ := pre2_len h3
      have hl := congrArg List.length ht
      rw [List.length_drop, List.length_cons, List.length_cons] at hl
      rw [wrap_id (x := (d : Int) - 1) (by omega) (by omega), wrap_id (x := (i : Int) + 2) (by omega) (by omega), show (i : Int) + 2 = ((i + 2 : Nat) : Int) by omega]
      by_cases hd : d = 1
      · rw [if_pos hd]
        exact Ev.dT (by omega) Ev.pure
      · rw [if_neg hd, show (d : Int) - 1 = ((d - 1 : Nat) : Int) by omega, List.drop_drop]
        exact Ev.dF (by omega) (ih (d - 1) (i + 2) (by omega) (by omega) (by omega) (fun h => by omega))
    · rw [if_neg h3, (Bool.not_eq_true _).mp h3]
      refine Ev.isF rfl ?_
      rw [wrap_nat (by omega), List.drop_drop]
      exact ih d (i + 1) (by omega) (by omega) (by omega) (fun h => by omega)
theorem ev_cmt {s : List UInt8} (hs : s.length ≤ 2000000) (h : List.isPrefixOf [40, 42] s = true) : Ev (fun K => lexer_comment K s) ((cmt s : Nat) : Int) :=
  Ev.congr (f := fun K => _) (ev_cm_loop s hs (s.length + 1) 0 0 (by omega) (by omega) (by omega) (fun _ => h)) (fun K => by rw [lexer_comment]; rfl)
/-! ### may it be read? -/
theorem Rk.step {s : List UInt8} (h : Rk s) (hs : s ≠ []) : okr (dc s).1 ∧ Rk (s.drop (dc s).2) := by
  cases h with
  | nil => exact absurd rfl hs
  | cons _ a b => exact ⟨a, b⟩
theorem ev_check_loop (s : List UInt8) : ∀ t, ∀ i : Nat, s.drop i = t → i ≤ s.length → (Rk t ∧ Ev (fun K => runes_Check_l0 K s (i : Int)) (0, 0)) ∨ (¬ Rk t ∧ ∃ j : Nat, j ≤ s.length ∧ Ev (fun K => runes_Check_l0 K s (i : Int)) ((j : Int), 4)) := by
  refine rune_ind ?_ ?_
  · intro i hd hi
    have : s.length ≤ i := List.drop_eq_nil_iff.1 hd
    refine .inl ⟨.nil, Ev.step (fun k => by rw [runes_Check_l0]) ?_⟩
    exact Ev.dF (by simp only [Int.toNat_natCast]; omega) Ev.pure
  · intro t ht ih i hd hi
    have hl := congrArg List.length hd
    rw [List.length_drop] at hl
    have h1 : 1 ≤ t.length := by cases t with | nil => exact absurd rfl ht | cons => simp
    have hle := dc_le ht
    have bad : ¬ okr (dc t).1 → Ev (fun K => runes_Check_l0 K s (i : Int)) ((i : Int), 4) := fun hb => by
      refine Ev.step (fun k => by rw [runes_Check_l0]) ?_
      simp only [Int.toNat_natCast, runeAt_dc]
      rw [hd]
      refine Ev.dT (by omega) ?_
      refine Ev.d (fun _ => Ev.pure) (fun c1 => ?_)
      refine Ev.d (fun c2 => Ev.bind (ev_class1 _) ?_) (fun c2 => ?_)
      · refine Ev.n (fun _ => Ev.pure) (fun c3 => ?_)
        refine Ev.dT ?_ Ev.pure
        refine Classical.byContradiction fun c4 => hb ⟨by omega, fun _ => c3, by omega⟩
      · refine Ev.dT ?_ Ev.pure
        refine Classical.byContradiction fun c4 => hb ⟨by omega, fun h => absurd h c2, by omega⟩
    by_cases hok : okr (dc t).1
    · have good : ∀ {v : Int × Int}, Ev (fun K => runes_Check_l0 K s ((i + (dc t).2 : Nat) : Int)) v → Ev (fun K => runes_Check_l0 K s (i : Int)) v := fun {v} nxt => by
        obtain ⟨o1, o2, o3⟩ := hok
        refine Ev.step (fun k => by rw [runes_Check_l0]) ?_
        simp only [Int.toNat_natCast, runeAt_dc]
        rw [hd]
        refine Ev.dT (by omega) ?_
        refine Ev.dF (by omega) ?_
        refine Ev.d (fun h32 => Ev.bind (ev_class1 _) ?_) (fun h32 => ?_)
        · exact Ev.nF (o2 h32) (Ev.dF (by omega) nxt)
        · exact Ev.dF (by omega) nxt
      rcases ih (i + (dc t).2) (by rw [← List.drop_drop, hd]) (by omega) with ⟨a, b⟩ | ⟨a, j, b, c⟩
      · exact .inl ⟨.cons ht hok a, good b⟩
      · exact .inr ⟨fun h => a (h.step ht).2, j, b, good c⟩
    · exact .inr ⟨fun h => hok (h.step ht).1, i, hi, bad hok⟩
/-- a text that is not too long is read, or refused at one of its bytes -/
theorem ev_check_all {s : List UInt8} (hs : s.length ≤ 16384) : (Rk s ∧ Ev (fun K => runes_Check K s) (0, 0)) ∨ (¬ Rk s ∧ ∃ j : Nat, j ≤ s.length ∧ Ev (fun K => runes_Check K s) ((j : Int), 4)) := by
  have q : ∀ {v : Int × Int}, Ev (fun K => runes_Check_l0 K s 0) v → Ev (fun K => runes_Check K s) v := fun h => by
    refine Ev.congr (f := fun K => _) ?_ (fun K => by rw [runes_Check])
    exact Ev.dF (by omega) h
  rcases ev_check_loop s s 0 rfl (Nat.zero_le _) with ⟨a, b⟩ | ⟨a, j, b, c⟩
  · exact .inl ⟨a, q b⟩
  · exact .inr ⟨a, j, b, q c⟩
end Go.Proofs.YtnogkihchgnbcaaGreatDoor

/- The lexer, piece by piece: words, names, numbers, signs. -/
namespace Go.Proofs.YtnogkihchgnbcaaGreatDoor
open Go Go.Am Go.Sx
theorem dc_low {s : List UInt8} (h : s ≠ []) (hr : (dc s).1 < 128) : ∃ b t, s = b :: t ∧ b.toNat = (dc s).1 ∧ (dc s).2 = 1 := by
  cases s with
  | nil => exact absurd rfl h
  | cons b t =>
    refine ⟨b, t, rfl, ?_⟩
    have e0 : (b :: t)[0]! = b := rfl
    unfold dc Lib.decodeN at hr ⊢
    rw [e0] at hr ⊢
    by_cases c0 : b.toNat < 128
    · rw [if_pos c0]; exact ⟨rfl, rfl⟩
    · exfalso
      rw [if_neg c0] at hr
      revert hr
      repeat' split
      all_goals simp only; omega
theorem cls_two {r : Int} (h : cls r = 2) : 48 ≤ r ∧ r ≤ 57 := by
  unfold cls at h
  repeat' split at h
  all_goals first | omega | (exact absurd h (by decide))
theorem sp_dg : ∀ s : List UInt8, Dg (s.take (sp dgR s)) := by
  refine rune_ind ?_ fun s h ih => ?_
  · intro b hb; cases hb
  · rw [sp_step h]
    by_cases hc : dgR (((dc s).1 : Nat) : Int) = true
    · rw [if_pos hc]
      have hc2 := cls_two (of_decide_eq_true hc)
      obtain ⟨b, t, rfl, e1, e2⟩ := dc_low h (by omega)
      rw [e2] at ih ⊢
      rw [Nat.add_comm, List.take_succ_cons]
      intro c hc
      rcases List.mem_cons.1 hc with rfl | hc
      · omega
      · exact ih c hc
    · rw [if_neg hc]
      intro b hb; cases hb
theorem sub_take {l : List UInt8} {k : Nat} (h : k ≤ l.length) : subL l 0 ((k : Nat) : Int) = some (l.take k) := by
  have := subL_ok (l := l) (a := 0) (b := k) (by omega) h
  simpa using this
theorem head_get {l : List UInt8} {n : Nat} (h : n < l.length) : (l.drop n).head? = some l[n] := by rw [drop_get h]; rfl
/-- parts of a long name, behind a first one -/
def lgF : Nat → Bool → List UInt8 → Nat × Bool
  | 0, _, _ => (0, false)
  | n + 1, ok, t => if ok = true ∧ t.head? = some 46 then (1 + sp inn (t.drop 1) + (lgF n (ckS ((t.drop 1).take (sp inn (t.drop 1)))) (t.drop (1 + sp inn (t.drop 1)))).1, (lgF n (ckS ((t.drop 1).take (sp inn (t.drop 1)))) (t.drop (1 + sp inn (t.drop 1)))).2) else (0, ok)
theorem lgF_le : ∀ (n : Nat) (ok : Bool) (t : List UInt8), (lgF n ok t).1 ≤ t.length := by
  intro n
  induction n with
  | zero => intro ok t; exact Nat.zero_le _
  | succ n ih =>
    intro ok t
    unfold lgF
    by_cases h : ok = true ∧ t.head? = some 46
    · rw [if_pos h]
      have := ih (ckS ((t.drop 1).take (sp inn (t.drop 1)))) (t.drop (1 + sp inn (t.drop 1)))
      have h1 : 1 ≤ t.length := by cases t with | nil => exact absurd h.2 (by simp) | cons => simp
      have h2 := sp_le (p := inn) (t.drop 1)
      rw [List.length_drop] at this h2
      simp only
      omega
    · rw [if_neg h]; exact Nat.zero_le _
theorem ev_ckif {β : Type} {p : List UInt8} {F : Nat → Bool → Option β} {v : β} (h : Ev (fun K => F K (ckS p)) v) : Ev (fun K => (runes_Name K p).bind fun x => iteS x ((lexer_Word K p).bind fun y => F K (!y)) (F K false)) v := by
  refine Ev.bind (ev_rname p) ?_
  cases hn : nmS p with
  | true =>
    refine Ev.isT rfl (Ev.bind (ev_word1 p) ?_)
    unfold ckS at h
    rw [hn, Bool.true_and] at h
    exact h
  | false =>
    refine Ev.isF rfl ?_
    unfold ckS at h
    rw [hn, Bool.false_and] at h
    exact h
theorem ev_long_loop (s : List UInt8) (hs : s.length ≤ 2000000) : ∀ (m n : Nat) (ok : Bool), s.length - n + 1 ≤ m → n ≤ s.length → Ev (fun K => lexer_long_l0 K s (n : Int) ok) (1, s.take (n + (lgF m ok (s.drop n)).1), 0, 0, ((n + (lgF m ok (s.drop n)).1 : Nat) : Int), (lgF m ok (s.drop n)).2 && decide (n + (lgF m ok (s.drop n)).1 ≤ 128)) := by
  intro m
  induction m with
  | zero => intro n ok h; omega
  | succ m ih =>
    intro n ok hm hn
    have hsub := sub_take hn
    refine Ev.step (fun k => by rw [lexer_long_l0]) ?_
    unfold lgF
    cases ok with
    | false =>
      rw [if_neg (fun h => absurd h.1 (by decide))]
      refine Ev.isF rfl ?_
      exact Ev.opt hsub (Ev.pure' (by simp))
    | true =>
      refine Ev.isT rfl ?_
      refine Ev.d (fun h => ?_) (fun h => ?_)
      · have hlt : n < s.length := by omega
        refine Ev.opt (getI_lt hlt) ?_
        rw [head_get hlt]
        refine Ev.d (fun h46 => ?_) (fun h46 => ?_)
        · have h46 : s[n] = 46 := by
            have : s[n].toNat = 46 := by omega
            exact UInt8.toNat_inj.1 this
          rw [if_pos ⟨rfl, by rw [h46]⟩, List.drop_drop, wrap_nat (by omega)]
          have hsd := subD (l := s) (a := n + 1) (by omega)
          refine Ev.opt hsd ?_
          refine Ev.bind (ev_spI _) ?_
          refine Ev.opt hsd ?_
          have hle := sp_le (p := inn) (s.drop (n + 1))
          refine Ev.opt (sub_take hle) ?_
          generalize hk : sp inn (s.drop (n + 1)) = k at *
          rw [List.length_drop] at hle
          refine ev_ckif (F := fun K b => lexer_long_l0 K s (IntKind.i64.wrap (((n : Nat) : Int) + IntKind.i64.wrap (1 + ((k : Nat) : Int)))) b) ?_
          rw [wrap_id (x := 1 + ((k : Nat) : Int)) (by omega) (by omega), wrap_id (by omega) (by omega), show (n : Int) + (1 + ((k : Nat) : Int)) = ((n + 1 + k : Nat) : Int) by omega]
          have nxt := ih (n + 1 + k) (ckS ((s.drop (n + 1)).take k)) (by omega) (by omega)
          rw [List.drop_drop, show n + (1 + k) = n + 1 + k by omega]
          simp only
          rw [show n + (1 + k + (lgF m (ckS (List.take k (List.drop (n + 1) s))) (List.drop (n + 1 + k) s)).fst) = n + 1 + k + (lgF m (ckS (List.take k (List.drop (n + 1) s))) (List.drop (n + 1 + k) s)).fst by omega]
          exact nxt
        · have h46 : ¬ some s[n] = some (46 : UInt8) := by
            intro e
            have e := Option.some.inj e
            rw [e] at h46
            exact h46 rfl
          rw [if_neg (fun h => h46 h.2)]
          refine Ev.opt hsub (Ev.pure' ?_)
          simp only [Nat.add_zero, Bool.true_and, Prod.mk.injEq, true_and]
          exact decide_eq_decide.2 (by omega)
      · have hn2 : s.drop n = [] := List.drop_of_length_le (by omega)
        rw [hn2, if_neg (fun h => by simp at h)]
        refine Ev.opt hsub (Ev.pure' ?_)
        simp only [Nat.add_zero, Bool.true_and, Prod.mk.injEq, true_and]
        exact decide_eq_decide.2 (by omega)
/-- a word, or a name, at the head -/
def lnS (s : List UInt8) : TokR :=
  if s.take (sp inn s) ∈ wrds ∧ (s.drop (sp inn s)).head? ≠ some 46 then (3, s.take (sp inn s), 0, 0, ((sp inn s : Nat) : Int), true)
  else (1, s.take (sp inn s + (lgF (s.length + 1) (ckS (s.take (sp inn s))) (s.drop (sp inn s))).1), 0, 0, ((sp inn s + (lgF (s.length + 1) (ckS (s.take (sp inn s))) (s.drop (sp inn s))).1 : Nat) : Int),
    (lgF (s.length + 1) (ckS (s.take (sp inn s))) (s.drop (sp inn s))).2 && decide (sp inn s + (lgF (s.length + 1) (ckS (s.take (sp inn s))) (s.drop (sp inn s))).1 ≤ 128))
theorem ev_long {s : List UInt8} (hs : s.length ≤ 2000000) : Ev (fun K => lexer_long K s) (lnS s) := by
  refine Ev.congr (f := fun K => _) ?_ (fun K => by rw [lexer_long])
  have hle := sp_le (p := inn) s
  refine Ev.bind (ev_spI s) ?_
  have hsub := sub_take hle
  have nxt := ev_long_loop s hs (s.length + 1) (sp inn s) (ckS (s.take (sp inn s))) (by omega) hle
  unfold lnS
  generalize hn : sp inn s = n at *
  refine Ev.opt hsub ?_
  refine Ev.bind (ev_word1 _) ?_
  by_cases hw : s.take n ∈ wrds
  · rw [decide_eq_true hw]
    refine Ev.isT rfl ?_
    refine Ev.d (fun h => ?_) (fun h => ?_)
    · have hn2 : s.drop n = [] := List.drop_of_length_le (by omega)
      rw [if_pos ⟨hw, by rw [hn2]; simp⟩]
      exact Ev.opt hsub Ev.pure
    · have hlt : n < s.length := by omega
      refine Ev.opt (getI_lt hlt) ?_
      refine Ev.n (fun h46 => ?_) (fun h46 => ?_)
      · have h46 : ¬ some s[n] = some (46 : UInt8) := by
          intro e
          have e := Option.some.inj e
          rw [e] at h46
          exact h46 rfl
        rw [if_pos ⟨hw, by rw [head_get hlt]; exact h46⟩]
        exact Ev.opt hsub Ev.pure
      · have h46 : s[n] = 46 := by
          have : s[n].toNat = 46 := by omega
          exact UInt8.toNat_inj.1 this
        rw [if_neg (fun h => h.2 (by rw [head_get hlt, h46]))]
        refine Ev.opt hsub ?_
        have q := ev_ckif (p := s.take n) (F := fun K b => lexer_long_l0 K s ((n : Nat) : Int) b) nxt
        refine Ev.congr (f := fun K => _) q fun K => ?_
        simp only [hsub, Option.bind_some]
  · rw [decide_eq_false hw, if_neg (fun h => hw h.1)]
    refine Ev.isF rfl ?_
    refine Ev.opt hsub ?_
    have q := ev_ckif (p := s.take n) (F := fun K b => lexer_long_l0 K s ((n : Nat) : Int) b) nxt
    refine Ev.congr (f := fun K => _) q fun K => ?_
    simp only [hsub, Option.bind_some]
/-! ### numbers -/
def badT : TokR := (0, [], 0, 0, 0, false)
def sgnI (f : Nat) (v : Int) : Int := if (f : Int) = 1 then -v else v
theorem ev_num_loop2 (s : List UInt8) (neg : Nat) (len : Int) (hl : s.length ≤ 2000000) : ∀ (m i : Nat) (v : Int), s.length = i + m → 0 ≤ v → v ≤ 1073741824 → Dg (s.drop i) → Ev (fun K => lexer_number_l0 K (neg : Int) len v s (i : Int)) (if 1073741824 < fv v (s.drop i) then badT else (2, numS (sgnI neg (fv v (s.drop i))), sgnI neg (fv v (s.drop i)), 0, len, true)) := by
  intro m
  induction m with
  | zero =>
    intro i v hi hv hv2 _
    have e : s.drop i = [] := List.drop_of_length_le (by omega)
    rw [e]
    show Ev _ (if 1073741824 < v then badT else (2, numS (sgnI neg v), sgnI neg v, 0, len, true))
    rw [if_neg (by omega)]
    refine Ev.step (fun k => by rw [lexer_number_l0]) ?_
    refine Ev.dF (by simp; omega) ?_
    unfold sgnI
    refine Ev.d (fun h => ?_) (fun h => ?_)
    · rw [if_pos h, wrap_id (by omega) (by omega), show 0 - v = -v by omega]
      exact Ev.bind (ev_Number1 _ (by omega)) Ev.pure
    · rw [if_neg h]
      exact Ev.bind (ev_Number1 _ (by omega)) Ev.pure
  | succ m ih =>
    intro i v hi hv hv2 hd
    have hlt : i < s.length := by omega
    have hd0 := drop_get hlt
    rw [hd0] at hd
    have hb := hd _ List.mem_cons_self
    have hd' : Dg (s.drop (i + 1)) := fun c hc => hd c (List.mem_cons_of_mem _ hc)
    have hg := fv_ge (s.drop (i + 1)) (10 * v + ((s[i].toNat : Int) - 48)) (by omega) hd'
    have ef : fv v (s.drop i) = fv (10 * v + ((s[i].toNat : Int) - 48)) (s.drop (i + 1)) := by rw [hd0]; rfl
    refine Ev.step (fun k => by rw [lexer_number_l0]) ?_
    simp only [Int.toNat_natCast, runeAt_dc]
    rw [ef, hd0, dc_byte (by omega)]
    refine Ev.dT (by omega) ?_
    rw [wrap32 (x := ((s[i].toNat : Nat) : Int) - 48) (by omega) (by omega), wrap_id (x := 10 * v) (by omega) (by omega), wrap_id (x := ((s[i].toNat : Nat) : Int) - 48) (by omega) (by omega), wrap_id (x := 10 * v + (((s[i].toNat : Nat) : Int) - 48)) (by omega) (by omega)]
    refine Ev.d (fun h => ?_) (fun h => ?_)
    · rw [if_pos (by omega)]; exact Ev.pure
    · exact ih (i + 1) _ (by omega) (by omega) (by omega) hd'
/-- a number at the head -/
def nuS (s : List UInt8) (f : Nat) : TokR :=
  if sp dgR (s.drop f) = 0 ∨ 0 < sp inn (s.drop (f + sp dgR (s.drop f))) ∨ 1073741824 < fv 0 ((s.drop f).take (sp dgR (s.drop f))) then badT
  else (2, numS (sgnI f (fv 0 ((s.drop f).take (sp dgR (s.drop f))))), sgnI f (fv 0 ((s.drop f).take (sp dgR (s.drop f)))), 0, ((f + sp dgR (s.drop f) : Nat) : Int), true)
theorem ev_num_c1 {s : List UInt8} {f : Nat} (hs : s.length ≤ 2000000) (hf : f ≤ s.length) : Ev (fun K => lexer_number_c0 K s (f : Int)) (nuS s f) := by
  refine Ev.step (fun k => by rw [lexer_number_c0]) ?_
  refine Ev.opt (subD hf) ?_
  refine Ev.bind (ev_spD _) ?_
  have hle := sp_le (p := dgR) (s.drop f)
  have hdg := sp_dg (s.drop f)
  unfold nuS
  generalize sp dgR (s.drop f) = k at *
  rw [List.length_drop] at hle
  rw [wrap_id (by omega) (by omega), show (f : Int) + (k : Int) = ((f + k : Nat) : Int) by omega]
  refine Ev.d (fun h => ?_) (fun h => ?_)
  · rw [if_pos (.inl (by omega))]; exact Ev.pure
  refine Ev.opt (subD (by omega)) ?_
  refine Ev.bind (ev_spI _) ?_
  generalize sp inn (s.drop (f + k)) = q
  refine Ev.d (fun h2 => ?_) (fun h2 => ?_)
  · rw [if_pos (.inr (.inl (by omega)))]; exact Ev.pure
  have sb := subL_ok (l := s) (a := f) (b := f + k) (by omega) (by omega)
  rw [show (s.take (f + k)).drop f = (s.drop f).take k by rw [List.drop_take]; congr 1; omega] at sb
  refine Ev.opt sb ?_
  generalize hD : (s.drop f).take k = D at *
  have hDl : D.length ≤ 2000000 := by rw [← hD, List.length_take]; omega
  have := ev_num_loop2 D f ((f + k : Nat) : Int) hDl D.length 0 0 (by omega) (by omega) (by omega) (by rw [List.drop_zero]; exact hdg)
  rw [List.drop_zero] at this
  refine Ev.cast this ?_
  by_cases hv : 1073741824 < fv 0 D
  · rw [if_pos hv, if_pos (.inr (.inr hv))]
  · rw [if_neg hv, if_neg (fun h3 => by omega)]
def tokS (s : List UInt8) : TokR := if cls (((dc s).1 : Nat) : Int) = 1 then lnS s else if cls (((dc s).1 : Nat) : Int) = 2 then nuS s 0 else if s.head? = some 126 then nuS s 1 else fnd sgns s
theorem ev_tok {s : List UInt8} (hs : s.length ≤ 2000000) (h0 : s ≠ []) : Ev (fun K => lexer_token K s) (tokS s) := by
  obtain ⟨b, t, rfl⟩ : ∃ b t, s = b :: t := by cases s with | nil => exact absurd rfl h0 | cons b t => exact ⟨b, t, rfl⟩
  have hg : getI (b :: t) 0 = some b := rfl
  have hnum : ∀ f, f ≤ (b :: t).length → (b.toNat = 126 ↔ f = 1) → (f = 0 ∨ f = 1) → Ev (fun K => lexer_number K (b :: t)) (nuS (b :: t) f) := fun f hf hb h01 => by
    refine Ev.congr (f := fun K => _) ?_ (fun K => by rw [lexer_number])
    refine Ev.opt hg ?_
    refine Ev.d (fun h => ?_) (fun h => ?_)
    · obtain rfl := hb.1 (by omega)
      exact ev_num_c1 hs hf
    · obtain rfl : f = 0 := by
        rcases h01 with h | h'
        · exact h
        · exact absurd (hb.2 h') (by omega)
      exact ev_num_c1 hs hf
  refine Ev.congr (f := fun K => _) ?_ (fun K => by rw [lexer_token])
  refine Ev.bind (ev_first h0) ?_
  refine Ev.bind (ev_class1 _) ?_
  unfold tokS
  refine Ev.d (fun h => ?_) (fun h => ?_)
  · rw [if_pos h]
    exact Ev.bind (ev_long hs) Ev.pure
  rw [if_neg h]
  refine Ev.d (fun h2 => ?_) (fun h2 => ?_)
  · rw [if_pos h2]
    refine Ev.bind (hnum 0 (Nat.zero_le _) ⟨fun e => ?_, fun e => absurd e (by decide)⟩ (.inl rfl)) Ev.pure
    exfalso
    rw [dc_byte (by omega)] at h2
    have := cls_two h2
    simp only at this
    omega
  rw [if_neg h2]
  refine Ev.opt hg ?_
  refine Ev.d (fun h3 => ?_) (fun h3 => ?_)
  · have e : b = 126 := UInt8.toNat_inj.1 (by show b.toNat = 126; omega)
    rw [if_pos (by rw [e]; rfl)]
    exact Ev.bind (hnum 1 (by simp) ⟨fun _ => rfl, fun _ => by omega⟩ (.inr rfl)) Ev.pure
  · rw [if_neg (fun e => h3 (by rw [show b = 126 from Option.some.inj e]; rfl))]
    refine Ev.opt (signs_eq 0) ?_
    have := ev_signs_loop (b :: t) sgns (by decide) sgns.length 0 (by omega)
    rw [List.drop_zero] at this
    exact this
end Go.Proofs.YtnogkihchgnbcaaGreatDoor

/- The lexer: a text's tokens. -/
namespace Go.Proofs.YtnogkihchgnbcaaGreatDoor
open Go Go.Am Go.Sx
/-- what a token is, by its word and its number -/
def TkG (x : Wd) (v : Int) : Prop := (x.1 = 3 ∧ (x.2 ∈ wrds ∨ x.2 ∈ sgns) ∧ v = 0) ∨ (x.1 = 1 ∧ (∃ p r, x.2 = p ++ lj r ∧ ckS p = true ∧ (∀ q ∈ r, ckS q = true) ∧ x.2.length ≤ 128) ∧ v = 0) ∨ (x.1 = 2 ∧ x.2 = numS v ∧ -1073741824 ≤ v ∧ v ≤ 1073741824)
theorem lgF_ok : ∀ (n : Nat) (ok : Bool) (t : List UInt8), (lgF n ok t).2 = true → ok = true ∧ ∃ r, t.take (lgF n ok t).1 = lj r ∧ ∀ q ∈ r, ckS q = true := by
  intro n
  induction n with
  | zero => intro ok t h; exact absurd (show false = true from h) (by decide)
  | succ n ih =>
    intro ok t
    unfold lgF
    by_cases h : ok = true ∧ t.head? = some 46
    · rw [if_pos h]
      obtain ⟨b, u, rfl⟩ : ∃ b u, t = b :: u := by cases t with | nil => exact absurd h.2 (by simp) | cons b u => exact ⟨b, u, rfl⟩
      obtain rfl : b = 46 := Option.some.inj h.2
      show _ → _
      intro h2
      obtain ⟨c, r, e, hr⟩ := ih _ _ h2
      refine ⟨h.1, u.take (sp inn u) :: r, ?_, fun q hq => ?_⟩
      · show (46 :: u).take _ = 46 :: (u.take (sp inn u) ++ lj r)
        rw [← e]
        simp only [List.drop_succ_cons, List.drop_zero]
        generalize (lgF n (ckS (List.take (sp inn u) u)) (List.drop (1 + sp inn u) (46 :: u))).1 = m
        rw [show 1 + sp inn u + m = (sp inn u + m) + 1 by omega, List.take_succ_cons, List.take_add, show 1 + sp inn u = sp inn u + 1 by omega, List.drop_succ_cons]
      · rcases List.mem_cons.1 hq with rfl | hq
        · exact c
        · exact hr q hq
    · rw [if_neg h]
      show ok = true → _
      intro h2
      refine ⟨h2, [], rfl, fun q hq => by cases hq⟩
theorem inn_cls {r : Int} (h : cls r = 1) : inn r = true := by unfold inn; rw [h]; rfl
theorem fnd_some {l : List (List UInt8)} {s : List UInt8} (h : (fnd l s).2.2.2.2.2 = true) : ∃ x, x ∈ l ∧ x.isPrefixOf s = true ∧ fnd l s = (3, x, 0, 0, ((x.length : Nat) : Int), true) := by
  unfold fnd at h ⊢
  cases hf : l.find? (fun x => x.isPrefixOf s) with
  | none => rw [hf] at h; exact absurd h (by decide)
  | some x => exact ⟨x, List.mem_of_find?_eq_some hf, List.find?_some (p := fun x : List UInt8 => x.isPrefixOf s) hf, rfl⟩
theorem sgns_ne : ∀ x ∈ sgns, 1 ≤ x.length := by decide
/-- what a token at the head is -/
theorem tok_ok {s : List UInt8} (h0 : s ≠ []) (h : (tokS s).2.2.2.2.2 = true) : ∃ (k : Int) (x : List UInt8) (v : Int) (n : Nat), tokS s = (k, x, v, 0, (n : Int), true) ∧ 1 ≤ n ∧ n ≤ s.length ∧ TkG (k, x) v := by
  have hnum : ∀ f, f ≤ s.length → (nuS s f).2.2.2.2.2 = true → ∃ (k : Int) (x : List UInt8) (v : Int) (n : Nat), nuS s f = (k, x, v, 0, (n : Int), true) ∧ 1 ≤ n ∧ n ≤ s.length ∧ TkG (k, x) v := fun f hf h => by
    have hdg := sp_dg (s.drop f)
    have hle := sp_le (p := dgR) (s.drop f)
    rw [List.length_drop] at hle
    unfold nuS at h ⊢
    generalize sp dgR (s.drop f) = k at *
    by_cases hc : k = 0 ∨ 0 < sp inn (s.drop (f + k)) ∨ 1073741824 < fv 0 ((s.drop f).take k)
    · rw [if_pos hc] at h; exact absurd h (by decide)
    · rw [if_neg hc]
      have hg := fv_ge _ 0 (by omega) hdg
      refine ⟨_, _, _, _, rfl, by omega, by omega, .inr (.inr ⟨rfl, rfl, ?_⟩)⟩
      unfold sgnI
      split <;> omega
  unfold tokS at h ⊢
  by_cases c1 : cls (((dc s).1 : Nat) : Int) = 1
  · rw [if_pos c1] at h ⊢
    have hp := (sp_pos (p := inn) h0).1 (inn_cls c1)
    have hle := sp_le (p := inn) s
    unfold lnS at h ⊢
    by_cases hw : s.take (sp inn s) ∈ wrds ∧ (s.drop (sp inn s)).head? ≠ some 46
    · rw [if_pos hw] at h ⊢
      exact ⟨_, _, _, _, rfl, hp, hle, .inl ⟨rfl, .inl hw.1, rfl⟩⟩
    · rw [if_neg hw] at h ⊢
      have hl := lgF_le (s.length + 1) (ckS (s.take (sp inn s))) (s.drop (sp inn s))
      have ho := lgF_ok (s.length + 1) (ckS (s.take (sp inn s))) (s.drop (sp inn s))
      generalize lgF (s.length + 1) (ckS (s.take (sp inn s))) (s.drop (sp inn s)) = g at *
      rw [List.length_drop] at hl
      simp only [Bool.and_eq_true, decide_eq_true_eq] at h
      obtain ⟨hc, r, hr, hq⟩ := ho h.1
      refine ⟨1, s.take (sp inn s + g.1), 0, sp inn s + g.1, ?_, by omega, by omega, .inr (.inl ⟨rfl, ⟨s.take (sp inn s), r, ?_, hc, hq, ?_⟩, rfl⟩)⟩
      · rw [h.1, decide_eq_true h.2]; rfl
      · show s.take (sp inn s + g.1) = _
        rw [List.take_add, hr]
      · show (s.take (sp inn s + g.1)).length ≤ 128
        rw [List.length_take]; omega
  rw [if_neg c1] at h ⊢
  by_cases c2 : cls (((dc s).1 : Nat) : Int) = 2
  · rw [if_pos c2] at h ⊢
    exact hnum 0 (Nat.zero_le _) h
  rw [if_neg c2] at h ⊢
  by_cases c3 : s.head? = some 126
  · rw [if_pos c3] at h ⊢
    exact hnum 1 (by cases s with | nil => exact absurd rfl h0 | cons => simp) h
  rw [if_neg c3] at h ⊢
  obtain ⟨x, h1, h2, h3⟩ := fnd_some h
  rw [h3]
  have := (List.isPrefixOf_iff_prefix.1 h2).length_le
  exact ⟨_, _, _, _, rfl, sgns_ne x h1, this, .inl ⟨rfl, .inr h1, rfl⟩⟩
/-- the tokens from a place on -/
def lxF : Nat → List UInt8 → Nat → List Token → List Token × Int × Int
  | 0, _, i, _ => ([], (i : Int), 5)
  | n + 1, s, i, acc =>
    if s = [] then (acc, 0, 0)
    else if cls (((dc s).1 : Nat) : Int) = 3 then lxF n (s.drop (dc s).2) (i + (dc s).2) acc
    else if List.isPrefixOf [40, 42] s = true then (if cmt s = 0 then ([], (i : Int), 5) else lxF n (s.drop (cmt s)) (i + cmt s) acc)
    else if (tokS s).2.2.2.2.2 = true then lxF n (s.drop (tokS s).2.2.2.2.1.toNat) (i + (tokS s).2.2.2.2.1.toNat) (acc ++ [((tokS s).1, (tokS s).2.1, (tokS s).2.2.1, (i : Int))])
    else ([], (i : Int), 5)
theorem lxF_fuel : ∀ (n m : Nat) (s : List UInt8) (i : Nat) (acc : List Token), s.length < n → s.length < m → lxF n s i acc = lxF m s i acc := by
  intro n
  induction n with
  | zero => intro m s i acc h; omega
  | succ n ih =>
    intro m s i acc h h'
    cases m with
    | zero => omega
    | succ m =>
      unfold lxF
      by_cases e : s = []
      · rw [if_pos e, if_pos e]
      rw [if_neg e, if_neg e]
      have h1 : 1 ≤ s.length := by cases s with | nil => exact absurd rfl e | cons => simp
      by_cases c1 : cls (((dc s).1 : Nat) : Int) = 3
      · rw [if_pos c1, if_pos c1]
        have := dc_width s
        exact ih _ _ _ _ (by rw [List.length_drop]; omega) (by rw [List.length_drop]; omega)
      rw [if_neg c1, if_neg c1]
      by_cases c2 : List.isPrefixOf [40, 42] s = true
      · rw [if_pos c2, if_pos c2]
        by_cases c3 : cmt s = 0
        · rw [if_pos c3, if_pos c3]
        · rw [if_neg c3, if_neg c3]
          exact ih _ _ _ _ (by rw [List.length_drop]; omega) (by rw [List.length_drop]; omega)
      rw [if_neg c2, if_neg c2]
      by_cases c4 : (tokS s).2.2.2.2.2 = true
      · rw [if_pos c4, if_pos c4]
        obtain ⟨k, x, v, q, e4, h4, _⟩ := tok_ok e c4
        rw [e4]
        simp only [Int.toNat_natCast]
        exact ih _ _ _ _ (by rw [List.length_drop]; omega) (by rw [List.length_drop]; omega)
      · rw [if_neg c4, if_neg c4]
def lxS (s : List UInt8) (i : Nat) (acc : List Token) : List Token × Int × Int := lxF (s.length + 1) s i acc
theorem lxS_nil (i : Nat) (acc : List Token) : lxS [] i acc = (acc, 0, 0) := by
  show lxF 1 [] i acc = _
  unfold lxF
  rw [if_pos rfl]
section
variable {s : List UInt8} (h0 : s ≠ [])
include h0
theorem lxS_bl (i : Nat) (acc : List Token) (c : cls (((dc s).1 : Nat) : Int) = 3) : lxS s i acc = lxS (s.drop (dc s).2) (i + (dc s).2) acc := by
  have h1 : 1 ≤ s.length := by cases s with | nil => exact absurd rfl h0 | cons => simp
  have := dc_width s
  unfold lxS
  rw [lxF, if_neg h0, if_pos c]
  exact lxF_fuel _ _ _ _ _ (by rw [List.length_drop]; omega) (by omega)
variable (c1 : ¬ cls (((dc s).1 : Nat) : Int) = 3)
include c1
theorem lxS_cm (i : Nat) (acc : List Token) (c2 : List.isPrefixOf [40, 42] s = true) : lxS s i acc = if cmt s = 0 then ([], (i : Int), 5) else lxS (s.drop (cmt s)) (i + cmt s) acc := by
  have h1 : 1 ≤ s.length := by cases s with | nil => exact absurd rfl h0 | cons => simp
  unfold lxS
  rw [lxF, if_neg h0, if_neg c1, if_pos c2]
  by_cases c3 : cmt s = 0
  · rw [if_pos c3, if_pos c3]
  · rw [if_neg c3, if_neg c3]
    exact lxF_fuel _ _ _ _ _ (by rw [List.length_drop]; omega) (by omega)
theorem lxS_tk (i : Nat) (acc : List Token) (c2 : List.isPrefixOf [40, 42] s = false) {k v : Int} {x : List UInt8} {n : Nat} (e : tokS s = (k, x, v, 0, (n : Int), true)) : lxS s i acc = lxS (s.drop n) (i + n) (acc ++ [(k, x, v, (i : Int))]) := by
  have h1 : 1 ≤ s.length := by cases s with | nil => exact absurd rfl h0 | cons => simp
  have c4 : (tokS s).2.2.2.2.2 = true := by rw [e]
  obtain ⟨k', x', v', q, e4, h4, _⟩ := tok_ok h0 c4
  rw [e] at e4
  have : n = q := by
    have := congrArg (fun r : TokR => r.2.2.2.2.1) e4
    simp only at this
    omega
  unfold lxS
  rw [lxF, if_neg h0, if_neg c1, if_neg (by rw [c2]; decide), if_pos c4, e]
  simp only [Int.toNat_natCast]
  exact lxF_fuel _ _ _ _ _ (by rw [List.length_drop]; omega) (by omega)
theorem lxS_no (i : Nat) (acc : List Token) (c2 : List.isPrefixOf [40, 42] s = false) (e : (tokS s).2.2.2.2.2 = false) : lxS s i acc = ([], (i : Int), 5) := by
  unfold lxS
  rw [lxF, if_neg h0, if_neg c1, if_neg (by rw [c2]; decide), if_neg (by rw [e]; decide)]
end
theorem lxS_span (acc : List Token) : ∀ (s : List UInt8), ∀ (i : Nat), lxS s i acc = lxS (s.drop (sp blR s)) (i + sp blR s) acc := by
  refine rune_ind ?_ fun s h ih i => ?_
  · intro i; rfl
  · rw [sp_step h]
    by_cases c : blR (((dc s).1 : Nat) : Int) = true
    · rw [if_pos c, lxS_bl h i acc (of_decide_eq_true c), ih, List.drop_drop, Nat.add_assoc]
    · rw [if_neg c]; rfl
theorem sp_zero {p : Int → Bool} {s : List UInt8} (h0 : s ≠ []) (h : sp p s = 0) : ¬ p (((dc s).1 : Nat) : Int) = true := fun c => by
  have := (sp_pos (p := p) h0).1 c
  omega
/-- The program's lexer comes to it. -/
theorem ev_lx (s : List UInt8) (hs : s.length ≤ 2000000) : ∀ (m i : Nat) (acc : List Token), s.length - i ≤ m → i ≤ s.length → acc.length ≤ i → Ev (fun K => lexer_Lex_l0 K s acc (i : Int)) (lxS (s.drop i) i acc) := by
  intro m
  induction m with
  | zero =>
    intro i acc hm hi ha
    have e : s.drop i = [] := List.drop_of_length_le (by omega)
    rw [e, lxS_nil]
    exact Ev.step (fun k => by rw [lexer_Lex_l0]) (Ev.dF (by omega) Ev.pure)
  | succ m ih =>
    intro i acc hm hi ha
    by_cases e : s.drop i = []
    · rw [e, lxS_nil]
      have : s.length ≤ i := List.drop_eq_nil_iff.1 e
      exact Ev.step (fun k => by rw [lexer_Lex_l0]) (Ev.dF (by omega) Ev.pure)
    have hlt : i < s.length := by
      have := mt List.drop_eq_nil_iff.2 e
      omega
    have hlen : (s.drop i).length = s.length - i := List.length_drop
    refine Ev.step (fun k => by rw [lexer_Lex_l0]) ?_
    refine Ev.dT (by omega) ?_
    refine Ev.opt (subD hi) ?_
    refine Ev.bind (ev_spB _) ?_
    refine Ev.d (fun hb => ?_) (fun hb => ?_)
    · have hle := sp_le (p := blR) (s.drop i)
      have nxt := ih (i + sp blR (s.drop i)) acc (by omega) (by omega) (by omega)
      rw [lxS_span, List.drop_drop]
      rw [wrap_id (by omega) (by omega), show (i : Int) + ((sp blR (s.drop i) : Nat) : Int) = ((i + sp blR (s.drop i) : Nat) : Int) by omega]
      exact nxt
    have hc := sp_zero (p := blR) e (by omega)
    have c1 : ¬ cls (((dc (s.drop i)).1 : Nat) : Int) = 3 := fun h => hc (decide_eq_true h)
    refine Ev.bind (ev_prefix _ _) ?_
    cases c2 : List.isPrefixOf [40, 42] (s.drop i) with
    | true =>
      refine Ev.isT rfl ?_
      refine Ev.bind (ev_cmt (by omega) c2) ?_
      rw [lxS_cm e c1 i acc c2]
      refine Ev.d (fun h => ?_) (fun h => ?_)
      · rw [if_pos (by omega)]; exact Ev.pure
      · have hbd := cmF_bd ((s.drop i).length + 1) 0 (s.drop i) 0
        have h' : cmt (s.drop i) ≠ 0 := by omega
        have hbd := hbd h'
        have e2 : cmF ((s.drop i).length + 1) 0 (s.drop i) 0 = cmt (s.drop i) := rfl
        rw [e2] at hbd
        rw [if_neg h', List.drop_drop]
        rw [wrap_id (by omega) (by omega), show (i : Int) + ((cmt (s.drop i) : Nat) : Int) = ((i + cmt (s.drop i) : Nat) : Int) by omega]
        exact ih (i + cmt (s.drop i)) acc (by omega) (by omega) (by omega)
    | false =>
      refine Ev.isF rfl ?_
      refine Ev.bind (ev_tok (by omega) e) ?_
      cases c4 : (tokS (s.drop i)).2.2.2.2.2 with
      | false =>
        rw [lxS_no e c1 i acc c2 c4]
        generalize tokS (s.drop i) = g at *
        obtain ⟨a1, a2, a3, a4, a5, a6⟩ := g
        simp only at c4
        subst c4
        exact Ev.isT rfl Ev.pure
      | true =>
        obtain ⟨k, x, v, n, e4, h4, h5, _⟩ := tok_ok e c4
        rw [lxS_tk e c1 i acc c2 e4, e4]
        refine Ev.isF rfl ?_
        refine Ev.step (F := fun K => lexer_Lex_c0 K s acc (i : Int) (n : Int) k x v 0) (fun k => by rw [lexer_Lex_c0]) ?_
        refine Ev.opt (appL_ok (by simp; omega)) ?_
        rw [wrap_id (by omega) (by omega), show (i : Int) + (n : Int) = ((i + n : Nat) : Int) by omega, List.drop_drop]
        exact ih (i + n) _ (by omega) (by omega) (by simp; omega)
/-- The lexer on any text that is not too long. -/
theorem ev_lex_all {s : List UInt8} (hs : s.length ≤ 16384) : (Rk s ∧ Ev (fun K => lexer_Lex K s) (lxS s 0 [])) ∨ (¬ Rk s ∧ ∃ j : Nat, j ≤ s.length ∧ Ev (fun K => lexer_Lex K s) ([], (j : Int), 4)) := by
  rcases ev_check_all hs with ⟨a, b⟩ | ⟨a, j, b, c⟩
  · refine .inl ⟨a, Ev.congr (f := fun K => _) (Ev.bind b (Ev.nF rfl ?_)) (fun K => by rw [lexer_Lex])⟩
    exact ev_lx s (by omega) s.length 0 [] (by omega) (by omega) (by simp)
  · refine .inr ⟨a, j, b, Ev.congr (f := fun K => _) (Ev.bind c ?_) (fun K => by rw [lexer_Lex])⟩
    exact Ev.nT (show ¬ (4 : Int) = 0 by decide) Ev.pure
/-- what tokens there are, or where the text is refused -/
def LxB (s : List UInt8) (i : Nat) (acc : List Token) : Prop :=
    ((lxS s i acc).2.2 = 0 ∧ (lxS s i acc).2.1 = 0 ∧ ∃ l, (lxS s i acc).1 = acc ++ l ∧ l.length ≤ s.length ∧ ∀ t ∈ l, TkG (t.1, t.2.1) t.2.2.1 ∧ (i : Int) ≤ t.2.2.2 ∧ t.2.2.2 < ((i + s.length : Nat) : Int)) ∨
    (∃ j : Nat, lxS s i acc = ([], (j : Int), 5) ∧ j ≤ i + s.length)
theorem lxS_bd : ∀ (m : Nat) (s : List UInt8) (i : Nat) (acc : List Token), s.length ≤ m → LxB s i acc := by
  intro m
  induction m with
  | zero =>
    intro s i acc h
    obtain rfl := List.length_eq_zero_iff.1 (Nat.le_zero.1 h)
    exact .inl (by rw [lxS_nil]; exact ⟨rfl, rfl, [], by simp, Nat.le_refl _, fun t ht => by cases ht⟩)
  | succ m ih =>
    intro s i acc h
    by_cases e : s = []
    · subst e
      exact .inl (by rw [lxS_nil]; exact ⟨rfl, rfl, [], by simp, Nat.le_refl _, fun t ht => by cases ht⟩)
    have h1 : 1 ≤ s.length := by cases s with | nil => exact absurd rfl e | cons => simp
    have far : ∀ n, 1 ≤ n → n ≤ s.length → lxS s i acc = lxS (s.drop n) (i + n) acc → LxB s i acc := fun n hn1 hn2 he => by
      have q := ih (s.drop n) (i + n) acc (by rw [List.length_drop]; omega)
      unfold LxB at q
      rw [← he, List.length_drop] at q
      rcases q with ⟨a, b, l, c, d, f⟩ | ⟨j, a, b⟩
      · exact .inl ⟨a, b, l, c, by omega, fun t ht => ⟨(f t ht).1, by have := (f t ht).2; omega, by have := (f t ht).2; omega⟩⟩
      · exact .inr ⟨j, a, by omega⟩
    by_cases c1 : cls (((dc s).1 : Nat) : Int) = 3
    · exact far _ (dc_width s) (dc_le e) (lxS_bl e i acc c1)
    cases c2 : List.isPrefixOf [40, 42] s with
    | true =>
      by_cases c3 : cmt s = 0
      · exact .inr ⟨i, by rw [lxS_cm e c1 i acc c2, if_pos c3], by omega⟩
      · have hbd := cmF_bd (s.length + 1) 0 s 0 c3
        have e2 : cmF (s.length + 1) 0 s 0 = cmt s := rfl
        rw [e2] at hbd
        exact far (cmt s) (by omega) (by omega) (by rw [lxS_cm e c1 i acc c2, if_neg c3])
    | false =>
      cases c4 : (tokS s).2.2.2.2.2 with
      | false => exact .inr ⟨i, lxS_no e c1 i acc c2 c4, by omega⟩
      | true =>
        obtain ⟨k, x, v, n, e4, h4, h5, h6⟩ := tok_ok e c4
        have q := ih (s.drop n) (i + n) (acc ++ [(k, x, v, (i : Int))]) (by rw [List.length_drop]; omega)
        unfold LxB at q
        rw [← lxS_tk e c1 i acc c2 e4, List.length_drop] at q
        rcases q with ⟨a, b, l, c, d, f⟩ | ⟨j, a, b⟩
        · refine .inl ⟨a, b, (k, x, v, (i : Int)) :: l, by rw [c]; simp, by simp only [List.length_cons]; omega, fun t ht => ?_⟩
          rcases List.mem_cons.1 ht with rfl | ht
          · exact ⟨h6, by simp only; omega, by simp only; omega⟩
          · exact ⟨(f t ht).1, by have := (f t ht).2; omega, by have := (f t ht).2; omega⟩
        · exact .inr ⟨j, a, by omega⟩
end Go.Proofs.YtnogkihchgnbcaaGreatDoor

