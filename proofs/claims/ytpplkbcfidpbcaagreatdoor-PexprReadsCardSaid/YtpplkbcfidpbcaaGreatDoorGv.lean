/- Joined texts: W6, W7c. -/
import Derived.Test.YtpplkbcfidpbcaaGreatDoorGp
import Derived.Test.YtpplkbcfidpbcaaGreatDoorGw
/- The document's lexer comes to an end, whatever the text -/
namespace Go.Proofs.YtpplkbcfidpbcaaGreatDoor
open Go Go.Am Go.Sx
theorem hs_check (s : List UInt8) (hs : s.length ≤ 1000) : Hs (fun K => ref01_Check K s) (fun _ => True) := by
  refine Hs.congr (f := fun K => _) ?_ (fun k => by rw [ref01_Check])
  refine Hs.d (fun _ => Hs.pure trivial) (fun _ => ?_)
  have loop : ∀ (m i : Nat), s.length - i ≤ m → i ≤ s.length → Hs (fun K => ref01_Check_l0 K s (i : Int)) (fun _ => True) := by
    intro m
    induction m with
    | zero =>
      intro i hm hi
      refine Hs.step (fun k => by rw [ref01_Check_l0]) ?_
      exact Hs.d (fun h => absurd h (by omega)) (fun _ => Hs.pure trivial)
    | succ m ih =>
      intro i hm hi
      refine Hs.step (fun k => by rw [ref01_Check_l0]) ?_
      refine Hs.d (fun h => ?_) (fun _ => Hs.pure trivial)
      have hlt : i < s.length := by omega
      have hne := drop_nil_iff hlt
      have hw := dc_width (s.drop i)
      have hle := dc_le hne
      rw [List.length_drop] at hle
      have hn := ev_next s i hlt (by omega)
      unfold nx at hn
      by_cases hb : dc (s.drop i) = (65533, 1)
      · rw [if_pos hb] at hn
        refine Hs.evb hn ?_
        exact Hs.d (fun _ => Hs.pure trivial) (fun h => absurd rfl h)
      · rw [if_neg hb] at hn
        refine Hs.evb hn ?_
        have nxt : Hs (fun K => ref01_Check_l0 K s (IntKind.i64.wrap ((i : Int) + ((dc (s.drop i)).2 : Nat)))) (fun _ => True) := by
          rw [wrap_id (by omega) (by omega), show (i : Int) + ((dc (s.drop i)).2 : Nat) = ((i + (dc (s.drop i)).2 : Nat) : Int) by omega]
          exact ih _ (by omega) (by omega)
        refine Hs.d (fun _ => Hs.pure trivial) (fun _ => Hs.d (fun _ => Hs.pure trivial) (fun _ => Hs.d (fun _ => Hs.n (fun _ => Hs.n (fun _ => Hs.pure trivial) (fun _ => Hs.d (fun _ => Hs.pure trivial) (fun _ => nxt))) (fun _ => Hs.d (fun _ => Hs.pure trivial) (fun _ => nxt))) (fun _ => Hs.d (fun _ => Hs.pure trivial) (fun _ => nxt))))
  exact loop s.length 0 (by omega) (by omega)

theorem encR_len (l : List Int) : (encR l).length ≤ 4 * l.length := by
  have := runesBytes_size_le l
  show (runesBytes l).data.toList.length ≤ _
  rw [Array.length_toList]
  exact this

def innerR (r : Int) : Bool := decide (cls r = 1) || (decide (cls r = 2) || decide (r = 39))
theorem ev_inner2 (r : Int) : Ev (fun K => ref02_inner K r) (innerR r) := by
  refine Ev.congr (f := fun K => _) ?_ (fun k => by rw [ref02_inner])
  refine Ev.bind (ev_class2 r) ?_
  unfold innerR
  refine Ev.d (fun h => Ev.pure' (by simp [h])) (fun h => Ev.d (fun h' => Ev.pure' (by simp [h'])) (fun h' => Ev.pure' (by simp [h, h'])))
/-- a number's text -/
theorem hs_Number : ∀ (b : Nat) (n : Int), n.natAbs ≤ b → b ≤ 1099511627776 → Hs (fun K => ref02_Number K n) (fun v => v.length ≤ n.natAbs + 2) := by
  intro b
  induction b with
  | zero =>
    intro n hn _
    have e : n = 0 := by omega
    subst e
    refine Hs.step (fun k => by rw [ref02_Number]) ?_
    refine Hs.d (fun h => absurd h (by decide)) (fun _ => Hs.d (fun h => absurd h (by decide)) (fun _ => Hs.d (fun _ => ?_) (fun h => absurd (by decide) h)))
    exact Hs.opt (a := [48]) rfl (Hs.pure (by simp))
  | succ b ih =>
    intro n hn hb
    have q1 := Int.tmod_add_mul_tdiv n 10
    have q2 := Int.tmod_lt_of_pos n (b := 10) (by decide)
    have q3 := Int.lt_tmod_of_pos n (b := 10) (by decide)
    have quo : divI .quo .i64 n 10 = some (n.tdiv 10) := by
      show (if (10 : Int) = 0 then none else some (IntKind.i64.wrap (n.tdiv 10))) = _
      rw [if_neg (by decide), wrap_id (by omega) (by omega)]
    have rem : divI .rem .i64 n 10 = some (n.tmod 10) := by
      show (if (10 : Int) = 0 then none else some (n.tmod 10)) = _
      rw [if_neg (by decide)]
    refine Hs.step (fun k => by rw [ref02_Number]) ?_
    by_cases hneg : n < 0
    · have q4 : n.tmod 10 ≤ 0 := by
        have := Int.tmod_nonneg 10 (a := -n) (by omega)
        rw [Int.neg_tmod] at this
        omega
      have big : n ≤ -10 → Hs (fun K => (divI .quo .i64 n 10).bind fun v3 => ((divI .rem .i64 n 10).bind fun v4 => ((divI .rem .i64 n 10).bind fun v5 => ((subL ([48, 49, 50, 51, 52, 53, 54, 55, 56, 57] : List UInt8) (IntKind.i64.wrap (0 - v4)) (IntKind.i64.wrap (1 - v5))).bind fun v6 => ((ref02_Number K v3).bind fun v7 => ((Am.catS v7 v6).bind fun v8 => (some v8))))))) (fun v => v.length ≤ n.natAbs + 2) := fun hbig => by
        refine Hs.opt quo ?_
        refine Hs.opt rem ?_
        refine Hs.opt rem ?_
        obtain ⟨d, hd⟩ : ∃ d : Nat, n.tmod 10 = -(d : Int) := ⟨(-(n.tmod 10)).toNat, by omega⟩
        have s1 : subL ([48, 49, 50, 51, 52, 53, 54, 55, 56, 57] : List UInt8) (IntKind.i64.wrap (0 - n.tmod 10)) (IntKind.i64.wrap (1 - n.tmod 10)) = some ((([48, 49, 50, 51, 52, 53, 54, 55, 56, 57] : List UInt8).take (d + 1)).drop d) := by
          rw [wrap_id (by omega) (by omega), wrap_id (by omega) (by omega), show 0 - n.tmod 10 = ((d : Nat) : Int) by omega, show 1 - n.tmod 10 = ((d + 1 : Nat) : Int) by omega]
          exact subL_ok (by omega) (by simp; omega)
        refine Hs.opt s1 ?_
        have l1 : ((([48, 49, 50, 51, 52, 53, 54, 55, 56, 57] : List UInt8).take (d + 1)).drop d).length ≤ 1 := by simp only [List.length_drop, List.length_take]; omega
        refine Hs.bind (ih (n.tdiv 10) (by omega) (by omega)) fun v hv => ?_
        refine Hs.opt (catS_ok (by omega)) (Hs.pure ?_)
        rw [List.length_append]; omega
      refine Hs.d (fun _ => ?_) (fun h => absurd hneg h)
      refine Hs.d (fun h10 => ?_) (fun h10 => ?_)
      · obtain ⟨d, hd⟩ : ∃ d : Nat, n = -(d : Int) := ⟨n.natAbs, by omega⟩
        have s1 : subL ([48, 49, 50, 51, 52, 53, 54, 55, 56, 57] : List UInt8) (IntKind.i64.wrap (0 - n)) (IntKind.i64.wrap (1 - n)) = some ((([48, 49, 50, 51, 52, 53, 54, 55, 56, 57] : List UInt8).take (d + 1)).drop d) := by
          rw [wrap_id (by omega) (by omega), wrap_id (by omega) (by omega), show 0 - n = ((d : Nat) : Int) by omega, show 1 - n = ((d + 1 : Nat) : Int) by omega]
          exact subL_ok (by omega) (by simp; omega)
        refine Hs.opt s1 ?_
        have l1 : ((([48, 49, 50, 51, 52, 53, 54, 55, 56, 57] : List UInt8).take (d + 1)).drop d).length ≤ 1 := by simp only [List.length_drop, List.length_take]; omega
        refine Hs.opt (catS_ok (by simp only [List.length_cons, List.length_nil]; omega)) (Hs.pure ?_)
        rw [List.length_append]; simp only [List.length_cons, List.length_nil]; omega
      · exact Hs.d (fun _ => big (by omega)) (fun h => absurd hneg h)
    · have q4 : 0 ≤ n.tmod 10 := Int.tmod_nonneg 10 (by omega)
      refine Hs.d (fun h => absurd h hneg) (fun _ => Hs.d (fun h => absurd h hneg) (fun _ => Hs.d (fun h10 => ?_) (fun h10 => ?_)))
      · obtain ⟨d, hd⟩ : ∃ d : Nat, n = (d : Int) := ⟨n.natAbs, by omega⟩
        have s1 : subL ([48, 49, 50, 51, 52, 53, 54, 55, 56, 57] : List UInt8) n (IntKind.i64.wrap (n + 1)) = some ((([48, 49, 50, 51, 52, 53, 54, 55, 56, 57] : List UInt8).take (d + 1)).drop d) := by
          rw [wrap_id (by omega) (by omega), show n + 1 = ((d + 1 : Nat) : Int) by omega, hd]
          exact subL_ok (by omega) (by simp; omega)
        refine Hs.opt s1 (Hs.pure ?_)
        simp only [List.length_drop, List.length_take]; omega
      · refine Hs.opt quo ?_
        refine Hs.opt rem ?_
        refine Hs.opt rem ?_
        obtain ⟨d, hd⟩ : ∃ d : Nat, n.tmod 10 = (d : Int) := ⟨(n.tmod 10).toNat, by omega⟩
        have s1 : subL ([48, 49, 50, 51, 52, 53, 54, 55, 56, 57] : List UInt8) (n.tmod 10) (IntKind.i64.wrap (n.tmod 10 + 1)) = some ((([48, 49, 50, 51, 52, 53, 54, 55, 56, 57] : List UInt8).take (d + 1)).drop d) := by
          rw [wrap_id (by omega) (by omega), show n.tmod 10 + 1 = ((d + 1 : Nat) : Int) by omega, hd]
          exact subL_ok (by omega) (by simp; omega)
        refine Hs.opt s1 ?_
        have l1 : ((([48, 49, 50, 51, 52, 53, 54, 55, 56, 57] : List UInt8).take (d + 1)).drop d).length ≤ 1 := by simp only [List.length_drop, List.length_take]; omega
        refine Hs.bind (ih (n.tdiv 10) (by omega) (by omega)) fun v hv => ?_
        refine Hs.opt (catS_ok (by omega)) (Hs.pure ?_)
        rw [List.length_append]; omega

section
variable {l : List Int} (hl : l.length ≤ 1000)
include hl
theorem hs_text {fr to : Nat} (hft : fr ≤ to) (hto : to ≤ l.length) : Hs (fun K => ref02_text K l (fr : Int) (to : Int)) (fun v => v.length ≤ 4000) := by
  refine Hs.congr (f := fun K => _) ?_ (fun k => by rw [ref02_text])
  have loop : ∀ (m i : Nat) (s : List UInt8), to - i ≤ m → i ≤ to → s.length ≤ 4 * i → Hs (fun K => ref02_text_l0 K l (to : Int) s (i : Int)) (fun v => v.length ≤ 4000) := by
    intro m
    induction m with
    | zero =>
      intro i s hm hi hs
      refine Hs.step (fun k => by rw [ref02_text_l0]) ?_
      exact Hs.d (fun h => absurd h (by omega)) (fun _ => Hs.pure (by omega))
    | succ m ih =>
      intro i s hm hi hs
      refine Hs.step (fun k => by rw [ref02_text_l0]) ?_
      refine Hs.d (fun h => ?_) (fun _ => Hs.pure (by omega))
      rw [wr1 (by omega)]
      refine Hs.opt (subL_ok (a := i) (b := i + 1) (by omega) (by omega)) ?_
      have h4 := encR_len ((l.take (i + 1)).drop i)
      have h5 : ((l.take (i + 1)).drop i).length ≤ 1 := by simp; omega
      refine Hs.opt (catS_ok (by omega)) ?_
      exact ih (i + 1) _ (by omega) (by omega) (by rw [List.length_append]; omega)
  exact loop (to - fr) fr [] (by omega) hft (by simp)
end
end Go.Proofs.YtpplkbcfidpbcaaGreatDoor

/- The document's lexer comes to an end, part 2; the law PtypeReads. -/
namespace Go.Proofs.YtpplkbcfidpbcaaGreatDoor
open Go Go.Am Go.Sx
/-- what a rule of the lexer leaves: a text that is not beyond all measure, a place further on -/
def TokOk (len i : Nat) (r : Int × List UInt8 × Int × Int × Int × Bool) : Prop := r.2.2.2.2.2 = true → r.2.1.length ≤ 1099511627776 ∧ ∃ t : Nat, r.2.2.2.2.1 = (t : Int) ∧ i < t ∧ t ≤ len
theorem tok_no {len i : Nat} {r : Int × List UInt8 × Int × Int × Int × Bool} (h : r.2.2.2.2.2 = false) : TokOk len i r := fun h' => by rw [h] at h'; cases h'
theorem tok_yes {len i t : Nat} {k n z : Int} {s : List UInt8} {b : Bool} (h1 : s.length ≤ 1099511627776) (h2 : i < t) (h3 : t ≤ len) : TokOk len i (k, s, n, z, (t : Int), b) := fun _ => ⟨h1, t, rfl, h2, h3⟩
section
variable {l : List Int} (hl : l.length ≤ 1000)
include hl
theorem hs_head {i : Nat} (hi : i ≤ l.length) : Hs (fun K => ref02_head K l (i : Int)) (fun v => ∃ n : Nat, v = (n : Int) ∧ i + n ≤ l.length ∧ ∀ r, l[i]? = some r → cls r = 1 → 1 ≤ n) := by
  refine Hs.congr (f := fun K => _) ?_ (fun k => by rw [ref02_head])
  have loop : ∀ (m n : Nat), l.length - (i + n) ≤ m → i + n ≤ l.length → Hs (fun K => ref02_head_l0 K l (i : Int) (n : Int)) (fun v => ∃ n' : Nat, v = (n' : Int) ∧ n ≤ n' ∧ i + n' ≤ l.length ∧ ∀ r, l[i + n]? = some r → cls r = 1 → n < n') := by
    intro m
    induction m with
    | zero =>
      intro n hm hn
      refine Hs.step (fun k => by rw [ref02_head_l0]) ?_
      rw [wrap_id (by omega) (by omega)]
      refine Hs.d (fun h => absurd h (by omega)) (fun _ => Hs.pure ⟨n, rfl, Nat.le_refl _, hn, fun r hr => ?_⟩)
      rw [List.getElem?_eq_none (by omega)] at hr; cases hr
    | succ m ih =>
      intro n hm hn
      refine Hs.step (fun k => by rw [ref02_head_l0]) ?_
      rw [wrap_id (by omega) (by omega)]
      refine Hs.d (fun h => ?_) (fun h => Hs.pure ⟨n, rfl, Nat.le_refl _, hn, fun r hr => ?_⟩)
      · have hlt : i + n < l.length := by omega
        rw [show (i : Int) + (n : Int) = ((i + n : Nat) : Int) by omega]
        refine Hs.opt (getI_lt hlt) ?_
        refine Hs.evb (ev_inner2 _) ?_
        refine Hs.is (fun hc => ?_) (fun hc => Hs.pure ⟨n, rfl, Nat.le_refl _, hn, fun r hr hr1 => ?_⟩)
        · rw [wrap_nat (by omega)]
          refine (ih (n + 1) (by omega) (by omega)).weak ?_
          rintro v ⟨n', rfl, h1, h2, _⟩
          exact ⟨n', rfl, by omega, h2, fun _ _ _ => by omega⟩
        · rw [List.getElem?_eq_getElem hlt] at hr
          cases hr
          unfold innerR at hc
          rw [decide_eq_true hr1] at hc
          cases hc
      · rw [List.getElem?_eq_none (by omega)] at hr; cases hr
  refine (loop (l.length - i) 0 (by omega) (by omega)).weak ?_
  rintro v ⟨n, rfl, _, h2, h3⟩
  exact ⟨n, rfl, h2, fun r hr hc => h3 r hr hc⟩
theorem hs_name_l0 {i : Nat} (m : Nat) : ∀ (to : Nat) (ok : Bool), l.length - to ≤ m → i < to → to ≤ l.length → Hs (fun K => ref02_name_l0 K l (i : Int) (to : Int) ok) (TokOk l.length i) := by
  induction m with
  | zero =>
    intro to ok hm hi hto
    have fin : ∀ b : List UInt8 → Bool, Hs (fun K => (ref02_text K l (i : Int) (to : Int)).bind fun v => some ((1 : Int), v, (0 : Int), (0 : Int), (to : Int), b v)) (TokOk l.length i) := fun b =>
      Hs.bind (hs_text hl (by omega) hto) fun v hv => Hs.pure (tok_yes (by omega) hi hto)
    refine Hs.step (fun k => by rw [ref02_name_l0]) ?_
    refine Hs.is (fun _ => Hs.d (fun h => absurd h (by omega)) (fun _ => fin _)) (fun _ => fin fun _ => false)
  | succ m ih =>
    intro to ok hm hi hto
    have fin : ∀ b : List UInt8 → Bool, Hs (fun K => (ref02_text K l (i : Int) (to : Int)).bind fun v => some ((1 : Int), v, (0 : Int), (0 : Int), (to : Int), b v)) (TokOk l.length i) := fun b =>
      Hs.bind (hs_text hl (by omega) hto) fun v hv => Hs.pure (tok_yes (by omega) hi hto)
    refine Hs.step (fun k => by rw [ref02_name_l0]) ?_
    refine Hs.is (fun _ => Hs.d (fun h => ?_) (fun _ => fin _)) (fun _ => fin fun _ => false)
    have hlt : to < l.length := by omega
    refine Hs.opt (getI_lt hlt) ?_
    refine Hs.d (fun _ => ?_) (fun _ => fin _)
    rw [wr1 (by omega)]
    refine Hs.bind (hs_head hl (i := to + 1) (by omega)) ?_
    rintro v ⟨n, rfl, hn, _⟩
    rw [show IntKind.i64.wrap (((to + 1 : Nat) : Int) + (n : Int)) = ((to + 1 + n : Nat) : Int) by rw [wrap_id (by omega) (by omega)]; omega]
    refine Hs.bind (hs_text hl (by omega) hn) fun w hw => ?_
    refine Hs.evb (ev_name2 w (by omega)) ?_
    refine Hs.is (fun _ => ?_) (fun _ => ih _ _ (by omega) (by omega) hn)
    exact Hs.evb (ev_word2 w) (ih _ _ (by omega) (by omega) hn)
theorem hs_name {i : Nat} {r : Int} (hi : l[i]? = some r) (hr : cls r = 1) : Hs (fun K => ref02_name K l (i : Int)) (TokOk l.length i) := by
  have hlt : i < l.length := by
    rcases Nat.lt_or_ge i l.length with h | h
    · exact h
    · rw [List.getElem?_eq_none h] at hi; cases hi
  refine Hs.congr (f := fun K => _) ?_ (fun k => by rw [ref02_name])
  refine Hs.bind (hs_head hl (i := i) (by omega)) ?_
  rintro v ⟨n, rfl, hn, h1⟩
  have h1 := h1 r hi hr
  rw [show IntKind.i64.wrap ((i : Int) + (n : Int)) = ((i + n : Nat) : Int) by rw [wrap_id (by omega) (by omega)]; omega]
  refine Hs.bind (hs_text hl (by omega) hn) fun w hw => ?_
  have go : ∀ ok, Hs (fun K => ref02_name_l0 K l (i : Int) ((i + n : Nat) : Int) ok) (TokOk l.length i) := fun ok => hs_name_l0 hl l.length _ ok (by omega) (by omega) hn
  have rest : Hs (fun K => (ref01_Name K w).bind fun v5 => (iteS v5 ((ref02_Word K w).bind fun v6 => (ref02_name_l0 K l (i : Int) ((i + n : Nat) : Int) (!v6))) (ref02_name_l0 K l (i : Int) ((i + n : Nat) : Int) false))) (TokOk l.length i) :=
    Hs.evb (ev_name2 w (by omega)) (Hs.is (fun _ => Hs.evb (ev_word2 w) (go _)) (fun _ => go _))
  refine Hs.evb (ev_word2 w) ?_
  refine Hs.is (fun _ => ?_) (fun _ => rest)
  refine Hs.d (fun _ => Hs.pure (tok_yes (by omega) (by omega) hn)) (fun hne => ?_)
  refine Hs.opt (getI_lt (show i + n < l.length by omega)) ?_
  exact Hs.n (fun _ => Hs.pure (tok_yes (by omega) (by omega) hn)) (fun _ => rest)
theorem hs_number_l0 {i fr : Nat} (hif : i ≤ fr) (m : Nat) : ∀ (to v : Nat), l.length - to ≤ m → fr ≤ to → to ≤ l.length → v ≤ 1073741824 → Hs (fun K => ref02_number_l0 K l (i : Int) (to : Int) (fr : Int) (v : Int)) (TokOk l.length i) := by
  have fin : ∀ (to v : Nat), fr ≤ to → to ≤ l.length → v ≤ 1073741824 → ¬ ((to : Int) = (fr : Int)) → Hs (fun K => iteS (decide ((i : Int) < (fr : Int))) ((ref02_Number K (IntKind.i64.wrap (0 - (v : Int)))).bind fun v9 => (some ((2 : Int), v9, (IntKind.i64.wrap (0 - (v : Int))), (0 : Int), (to : Int), true))) ((ref02_Number K (v : Int)).bind fun v10 => (some (2, v10, (v : Int), 0, (to : Int), true)))) (TokOk l.length i) := fun to v h1 h2 h3 h4 => by
    refine Hs.d (fun _ => ?_) (fun _ => ?_)
    · rw [wrap_id (by omega) (by omega)]
      exact Hs.bind (hs_Number 1073741824 (0 - (v : Int)) (by omega) (by decide)) fun w hw => Hs.pure (tok_yes (by omega) (by omega) h2)
    · exact Hs.bind (hs_Number 1073741824 (v : Int) (by omega) (by decide)) fun w hw => Hs.pure (tok_yes (by omega) (by omega) h2)
  induction m with
  | zero =>
    intro to v hm hf hto hv
    refine Hs.step (fun k => by rw [ref02_number_l0]) ?_
    refine Hs.d (fun h => absurd h (by omega)) (fun _ => ?_)
    refine Hs.d (fun _ => Hs.pure (tok_no rfl)) (fun hne => ?_)
    exact Hs.d (fun h => absurd h (by omega)) (fun _ => fin to v hf hto hv hne)
  | succ m ih =>
    intro to v hm hf hto hv
    refine Hs.step (fun k => by rw [ref02_number_l0]) ?_
    have tail : ∀ h : to < l.length, ¬ ((to : Int) = (fr : Int)) → Hs (fun K => (getI l (to : Int)).bind fun v7 => ((ref02_inner K v7).bind fun v8 => (iteS v8 (some ((0 : Int), ([] : List UInt8), (0 : Int), (0 : Int), (0 : Int), false)) (iteS (decide ((i : Int) < (fr : Int))) ((ref02_Number K (IntKind.i64.wrap (0 - (v : Int)))).bind fun v9 => (some ((2 : Int), v9, (IntKind.i64.wrap (0 - (v : Int))), (0 : Int), (to : Int), true))) ((ref02_Number K (v : Int)).bind fun v10 => (some (2, v10, (v : Int), 0, (to : Int), true))))))) (TokOk l.length i) := fun h hne =>
      Hs.opt (getI_lt h) (Hs.evb (ev_inner2 _) (Hs.is (fun _ => Hs.pure (tok_no rfl)) (fun _ => fin to v hf hto hv hne)))
    refine Hs.d (fun h => ?_) (fun h => ?_)
    · have hlt : to < l.length := by omega
      refine Hs.opt (getI_lt hlt) ?_
      refine Hs.evb (ev_class2 _) ?_
      refine Hs.d (fun h2 => ?_) (fun _ => ?_)
      · refine Hs.opt (getI_lt hlt) ?_
        have hd : 48 ≤ l[to] ∧ l[to] ≤ 57 := by
          unfold cls at h2
          split at h2
          · cases h2
          · split at h2
            · assumption
            · split at h2
              · cases h2
              · split at h2 <;> cases h2
        rw [wrap_id (x := 10 * (v : Int)) (by omega) (by omega), wrap_id (x := l[to]) (by omega) (by omega), wrap_id (x := 10 * (v : Int) + l[to]) (by omega) (by omega), wrap_id (by omega) (by omega)]
        refine Hs.d (fun _ => Hs.pure (tok_no rfl)) (fun hb => ?_)
        rw [wr1 (by omega)]
        obtain ⟨v', hv'⟩ : ∃ v' : Nat, 10 * (v : Int) + l[to] - 48 = (v' : Int) := ⟨(10 * (v : Int) + l[to] - 48).toNat, by omega⟩
        rw [hv'] at hb ⊢
        exact ih (to + 1) v' (by omega) (by omega) (by omega) (by omega)
      · refine Hs.d (fun _ => Hs.pure (tok_no rfl)) (fun hne => ?_)
        exact Hs.d (fun _ => tail hlt hne) (fun h => absurd (by omega) h)
    · refine Hs.d (fun _ => Hs.pure (tok_no rfl)) (fun hne => ?_)
      exact Hs.d (fun h' => absurd h' h) (fun _ => fin to v hf hto hv hne)
theorem hs_number {i : Nat} (hi : i < l.length) : Hs (fun K => ref02_number K l (i : Int)) (TokOk l.length i) := by
  refine Hs.congr (f := fun K => _) ?_ (fun k => by rw [ref02_number])
  refine Hs.opt (getI_lt hi) ?_
  rw [wr1 (by omega)]
  refine Hs.d (fun _ => ?_) (fun _ => ?_)
  · refine Hs.step (fun k => by rw [ref02_number_c0]) ?_
    exact hs_number_l0 hl (fr := i + 1) (by omega) l.length (i + 1) 0 (by omega) (by omega) (by omega) (by omega)
  · refine Hs.step (fun k => by rw [ref02_number_c0]) ?_
    exact hs_number_l0 hl (fr := i) (by omega) l.length i 0 (by omega) (by omega) (by omega) (by omega)
theorem hs_signs {i : Nat} (hi : i ≤ l.length) (x : List (List UInt8)) (hx : x.length ≤ 1000) (hx2 : ∀ s ∈ x, s.length ≤ 1000) : ∀ (m k : Nat) (best : List UInt8), x.length - k ≤ m → k ≤ x.length → i + best.length ≤ l.length →
    Hs (fun K => ref02_token_l0 K l (i : Int) x best (k : Int)) (TokOk l.length i) := by
  have fin : ∀ best : List UInt8, i + best.length ≤ l.length → TokOk l.length i ((3 : Int), best, (0 : Int), (0 : Int), IntKind.i64.wrap ((i : Int) + ((best.length : Nat) : Int)), (!decide (best = ([] : List UInt8)))) := fun best hb h => by
    refine ⟨by show best.length ≤ _; omega, i + best.length, ?_, ?_, hb⟩
    · show IntKind.i64.wrap ((i : Int) + ((best.length : Nat) : Int)) = _
      rw [wrap_id (by omega) (by omega)]; omega
    · have : best ≠ [] := by simpa using h
      have := List.length_pos_iff.2 this
      omega
  intro m
  induction m with
  | zero =>
    intro k best hm hk hb
    refine Hs.step (fun k => by rw [ref02_token_l0]) ?_
    exact Hs.d (fun h => absurd h (by omega)) (fun _ => Hs.pure (fin best hb))
  | succ m ih =>
    intro k best hm hk hb
    refine Hs.step (fun k => by rw [ref02_token_l0]) ?_
    refine Hs.d (fun h => ?_) (fun _ => Hs.pure (fin best hb))
    have hlt : k < x.length := by omega
    have hs := hx2 _ (List.getElem_mem hlt)
    rw [wr1 (by omega)]
    refine Hs.opt (getI_lt hlt) ?_
    rw [wrap_id (by omega) (by omega)]
    refine Hs.d (fun h2 => ?_) (fun _ => ih (k + 1) best (by omega) (by omega) hb)
    refine Hs.opt (getI_lt hlt) ?_
    rw [show (i : Int) + ((x[k].length : Nat) : Int) = ((i + x[k].length : Nat) : Int) by omega]
    refine Hs.bind (hs_text hl (by omega) (by omega)) fun w hw => ?_
    refine Hs.d (fun _ => ?_) (fun _ => ih (k + 1) best (by omega) (by omega) hb)
    refine Hs.opt (getI_lt hlt) ?_
    refine Hs.d (fun _ => ?_) (fun _ => ih (k + 1) best (by omega) (by omega) hb)
    exact Hs.opt (getI_lt hlt) (ih (k + 1) x[k] (by omega) (by omega) (by omega))
theorem hs_token {i : Nat} (hi : i < l.length) : Hs (fun K => ref02_token K l (i : Int)) (TokOk l.length i) := by
  refine Hs.congr (f := fun K => _) ?_ (fun k => by rw [ref02_token])
  refine Hs.opt (getI_lt hi) ?_
  refine Hs.evb (ev_class2 _) ?_
  refine Hs.d (fun h => ?_) (fun _ => ?_)
  · exact Hs.bind (hs_name hl (List.getElem?_eq_getElem hi) h) fun v hv => Hs.pure hv
  refine Hs.d (fun h => ?_) (fun _ => ?_)
  · exact Hs.bind (hs_number hl hi) fun v hv => Hs.pure hv
  refine Hs.opt (getI_lt hi) ?_
  refine Hs.d (fun h => ?_) (fun _ => ?_)
  · exact Hs.bind (hs_number hl hi) fun v hv => Hs.pure hv
  · refine Hs.evb (a := (ref02_signs 0).getD []) ⟨0, fun _ _ => rfl⟩ ?_
    exact hs_signs hl (by omega) _ (by decide) (by decide) 17 0 [] (by decide) (by decide) (by simp; omega)
theorem hs_comment {i : Nat} (hi : i ≤ l.length) : Hs (fun K => ref02_comment K l (i : Int)) (fun v => v = 0 ∨ ∃ t : Nat, v = (t : Int) ∧ i < t ∧ t ≤ l.length) := by
  refine Hs.congr (f := fun K => _) ?_ (fun k => by rw [ref02_comment])
  have loop : ∀ (m j : Nat) (d : Int), l.length - j ≤ m → i ≤ j → j ≤ l.length → Hs (fun K => ref02_comment_l0 K l (j : Int) d) (fun v => v = 0 ∨ ∃ t : Nat, v = (t : Int) ∧ i < t ∧ t ≤ l.length) := by
    intro m
    induction m with
    | zero =>
      intro j d hm hij hj
      refine Hs.step (fun k => by rw [ref02_comment_l0]) ?_
      rw [wr1 (by omega)]
      exact Hs.d (fun h => absurd h (by omega)) (fun _ => Hs.pure (.inl rfl))
    | succ m ih =>
      intro j d hm hij hj
      refine Hs.step (fun k => by rw [ref02_comment_l0]) ?_
      rw [wr1 (by omega)]
      refine Hs.d (fun h => ?_) (fun _ => Hs.pure (.inl rfl))
      have h1 : j < l.length := by omega
      have h2 : j + 1 < l.length := by omega
      rw [wr2 (by omega)]
      have one : ∀ d, Hs (fun K => ref02_comment_l0 K l ((j + 1 : Nat) : Int) d) (fun v => v = 0 ∨ ∃ t : Nat, v = (t : Int) ∧ i < t ∧ t ≤ l.length) := fun d => ih (j + 1) d (by omega) (by omega) (by omega)
      have two : ∀ d, Hs (fun K => ref02_comment_l0 K l ((j + 2 : Nat) : Int) d) (fun v => v = 0 ∨ ∃ t : Nat, v = (t : Int) ∧ i < t ∧ t ≤ l.length) := fun d => ih (j + 2) d (by omega) (by omega) (by omega)
      have close : Hs (fun K => (getI l (j : Int)).bind fun v4 => (iteS (decide (v4 = 42)) ((getI l ((j + 1 : Nat) : Int)).bind fun v5 => (iteS (decide (v5 = 41)) (iteS (decide ((IntKind.i64.wrap (d - 1)) = 0)) (some ((j + 2 : Nat) : Int)) (ref02_comment_l0 K l ((j + 2 : Nat) : Int) (IntKind.i64.wrap (d - 1)))) (ref02_comment_l0 K l ((j + 1 : Nat) : Int) d))) (ref02_comment_l0 K l ((j + 1 : Nat) : Int) d))) (fun v => v = 0 ∨ ∃ t : Nat, v = (t : Int) ∧ i < t ∧ t ≤ l.length) :=
        Hs.opt (getI_lt h1) (Hs.d (fun _ => Hs.opt (getI_lt h2) (Hs.d (fun _ => Hs.d (fun _ => Hs.pure (.inr ⟨j + 2, rfl, by omega, by omega⟩)) (fun _ => two _)) (fun _ => one _))) (fun _ => one _))
      refine Hs.opt (getI_lt h1) ?_
      refine Hs.d (fun _ => ?_) (fun _ => close)
      refine Hs.opt (getI_lt h2) ?_
      exact Hs.d (fun _ => two _) (fun _ => close)
  exact loop l.length i 0 (by omega) (by omega) hi
/-- the tokens of any runes, or an error -/
theorem hs_Lex_l0 : ∀ (m i : Nat) (out : List Token), l.length - i ≤ m → i ≤ l.length → out.length ≤ i → (∀ k ∈ out, k.2.1.length ≤ 1099511627776) →
    Hs (fun K => ref02_Lex_l0 K l out (i : Int)) (fun r => r.1.length ≤ 1000 ∧ ∀ k ∈ r.1, k.2.1.length ≤ 1099511627776) := by
  intro m
  induction m with
  | zero =>
    intro i out hm hi ho hk
    refine Hs.step (fun k => by rw [ref02_Lex_l0]) ?_
    exact Hs.d (fun h => absurd h (by omega)) (fun _ => Hs.pure ⟨by show out.length ≤ _; omega, hk⟩)
  | succ m ih =>
    intro i out hm hi ho hk
    refine Hs.step (fun k => by rw [ref02_Lex_l0]) ?_
    refine Hs.d (fun h => ?_) (fun _ => Hs.pure ⟨by show out.length ≤ _; omega, hk⟩)
    have hlt : i < l.length := by omega
    rw [wr1 (by omega)]
    refine Hs.bind (hs_text hl (fr := 0) (to := i) (by omega) (by omega)) fun w hw => ?_
    have c0 : Hs (fun K => ref02_Lex_c0 K l out (i : Int) w) (fun r => r.1.length ≤ 1000 ∧ ∀ k ∈ r.1, k.2.1.length ≤ 1099511627776) := by
      refine Hs.step (fun k => by rw [ref02_Lex_c0]) ?_
      refine Hs.bind (hs_token hl hlt) ?_
      rintro ⟨a1, a2, a3, a4, a5, a6⟩ hv
      refine Hs.is (fun _ => Hs.pure ⟨by simp, by simp⟩) (fun h6 => ?_)
      obtain ⟨g1, t, g2, g3, g4⟩ := hv (by simpa using h6)
      have g2 : a5 = (t : Int) := g2
      subst g2
      refine Hs.opt (appL_ok (by simp; omega)) ?_
      refine ih t _ (by omega) g4 (by simp; omega) fun k hk' => ?_
      rcases List.mem_append.1 hk' with h | h
      · exact hk k h
      · rw [List.mem_singleton.1 h]; exact g1
    refine Hs.opt (getI_lt hlt) ?_
    refine Hs.evb (ev_class2 _) ?_
    refine Hs.d (fun _ => ih (i + 1) out (by omega) (by omega) (by omega) hk) (fun _ => ?_)
    refine Hs.d (fun h2 => ?_) (fun _ => c0)
    refine Hs.opt (getI_lt hlt) ?_
    refine Hs.d (fun _ => ?_) (fun _ => c0)
    refine Hs.opt (getI_lt (show i + 1 < l.length by omega)) ?_
    refine Hs.d (fun _ => ?_) (fun _ => c0)
    refine Hs.bind (hs_comment hl (i := i) (by omega)) ?_
    rintro v hv
    refine Hs.d (fun _ => Hs.pure ⟨by simp, by simp⟩) (fun hne => ?_)
    rcases hv with hv | ⟨t, rfl, g1, g2⟩
    · exact absurd hv hne
    · exact ih t out (by omega) g2 (by omega) hk
end
theorem hs_Lex (s : List UInt8) (hs : s.length ≤ 1000) : Hs (fun K => ref02_Lex K s) (fun r => r.1.length ≤ 1000 ∧ ∀ k ∈ r.1, k.2.1.length ≤ 1099511627776) := by
  refine Hs.congr (f := fun K => _) ?_ (fun k => by rw [ref02_Lex])
  refine Hs.bind (hs_check s hs) ?_
  rintro ⟨a, e⟩ _
  refine Hs.n (fun _ => Hs.pure ⟨by simp, by simp⟩) (fun _ => ?_)
  have hd := ev_decode s (by omega)
  by_cases hv : V s = true
  · rw [if_pos hv] at hd
    refine Hs.evb hd ?_
    have := rs_len s.length s (Nat.le_refl _)
    exact hs_Lex_l0 (by omega) (rs s).length 0 [] (by omega) (by omega) (by simp) (by simp)
  · rw [if_neg hv] at hd
    refine Hs.evb hd ?_
    exact hs_Lex_l0 (l := []) (by simp) 0 0 [] (by simp) (by simp) (by simp) (by simp)
end Go.Proofs.YtpplkbcfidpbcaaGreatDoor

