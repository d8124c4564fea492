/- Joined texts: N1, V0, V1, X5, X6, X7, N2, V5, X8, V6, V7. -/
import Derived.Test.YtpplkbcfidpbcaaGreatDoorGp
import Derived.Test.YtpplkbcfidpbcaaGreatDoorGs
import Derived.Test.YtpplkbcfidpbcaaGreatDoorGw
import Derived.Test.YtpplkbcfidpbcaaGreatDoorGy
/- A number's text: the program's and the document's are the same. -/
namespace Go.Proofs.YtpplkbcfidpbcaaGreatDoor
open Go Go.Am Go.Sx
def dgt (d : Nat) : UInt8 := UInt8.ofNat (48 + d)
/-- the digits of a number -/
def digF : Nat → Nat → List UInt8
  | 0, _ => []
  | f + 1, n => if n < 10 then [dgt n] else digF f (n / 10) ++ [dgt (n % 10)]
def dig (n : Nat) : List UInt8 := digF (n + 1) n
theorem digF_eq : ∀ (f g n : Nat), n < f → n < g → digF f n = digF g n
  | 0, _, _, h, _ => by omega
  | _ + 1, 0, _, _, h => by omega
  | f + 1, g + 1, n, h1, h2 => by
    unfold digF
    by_cases h : n < 10
    · rw [if_pos h, if_pos h]
    · rw [if_neg h, if_neg h, digF_eq f g (n / 10) (by omega) (by omega)]
theorem dig_small {n : Nat} (h : n < 10) : dig n = [dgt n] := by unfold dig digF; rw [if_pos h]
theorem dig_big {n : Nat} (h : ¬ n < 10) : dig n = dig (n / 10) ++ [dgt (n % 10)] := by
  rw [dig, digF, if_neg h, dig, digF_eq n (n / 10 + 1) (n / 10) (by omega) (by omega)]
theorem dig_len : ∀ (b n : Nat), n ≤ b → (dig n).length ≤ n + 1 ∧ 1 ≤ (dig n).length := by
  intro b
  induction b with
  | zero => intro n h; rw [dig_small (by omega)]; simp
  | succ b ih =>
    intro n h
    by_cases h10 : n < 10
    · rw [dig_small h10]; simp
    · rw [dig_big h10]
      have := ih (n / 10) (by omega)
      simp only [List.length_append, List.length_cons, List.length_nil]
      omega
theorem dig_len13 {n : Nat} (h : n ≤ 1099511627776) : (dig n).length ≤ 13 := by
  have gen : ∀ (k n : Nat), n < 10 ^ (k + 1) → (dig n).length ≤ k + 1 := by
    intro k
    induction k with
    | zero => intro n h; rw [dig_small (by omega)]; simp
    | succ k ih =>
      intro n h
      by_cases h10 : n < 10
      · rw [dig_small h10]; simp
      · rw [dig_big h10]
        have := ih (n / 10) (by rw [Nat.pow_succ] at h; omega)
        simp only [List.length_append, List.length_cons, List.length_nil]
        omega
  exact gen 12 n (by omega)
/-- a number's text -/
def numS (n : Int) : List UInt8 := (if n < 0 then [126] else []) ++ dig n.natAbs
theorem numS_len {n : Int} (h : n.natAbs ≤ 1099511627776) : (numS n).length ≤ 14 := by
  have := dig_len13 h
  unfold numS
  by_cases h0 : n < 0
  · rw [if_pos h0]; simp; omega
  · rw [if_neg h0]; simp; omega
/-! ### the program's: digits from the last one on, turned round -/
theorem wrapU64 {x : Int} (h1 : 0 ≤ x) (h2 : x ≤ 18446744073709551615) : IntKind.u64.wrap x = x := by
  show (if (false && decide (x % 18446744073709551616 ≥ 9223372036854775808)) = true then x % 18446744073709551616 - 18446744073709551616 else x % 18446744073709551616) = x
  simp only [Bool.false_and, Bool.false_eq_true, if_false]
  omega
theorem wrapU64n {x : Int} (h1 : x < 0) (h2 : -18446744073709551616 ≤ x) : IntKind.u64.wrap x = x + 18446744073709551616 := by
  show (if (false && decide (x % 18446744073709551616 ≥ 9223372036854775808)) = true then x % 18446744073709551616 - 18446744073709551616 else x % 18446744073709551616) = _
  simp only [Bool.false_and, Bool.false_eq_true, if_false]
  omega
theorem ev_rev : ∀ (b : Nat) (A M B : List Int), M.length ≤ b → A.length + M.length + B.length ≤ 1000 → Ev (fun K => slices_Reverse_l0 K (A ++ M ++ B) (A.length : Int) ((A.length : Int) + (M.length : Int) - 1)) (A ++ M.reverse ++ B) := by
  intro b
  induction b with
  | zero =>
    intro A M B hb hl
    have e : M = [] := List.length_eq_zero_iff.1 (by omega)
    subst e
    refine Ev.step (fun k => by rw [slices_Reverse_l0]) ?_
    exact Ev.dF (by simp; omega) (Ev.pure' (by simp))
  | succ b ih =>
    intro A M B hb hl
    match M, hb, hl with
    | [], _, _ =>
      refine Ev.step (fun k => by rw [slices_Reverse_l0]) ?_
      exact Ev.dF (by simp; omega) (Ev.pure' (by simp))
    | [x], _, _ =>
      refine Ev.step (fun k => by rw [slices_Reverse_l0]) ?_
      exact Ev.dF (by simp) (Ev.pure' (by simp))
    | x :: x' :: r, hb, hl =>
      obtain ⟨M', y, hM⟩ : ∃ M' y, x' :: r = M' ++ [y] := ⟨(x' :: r).dropLast, (x' :: r).getLast (by simp), (List.dropLast_concat_getLast (by simp)).symm⟩
      rw [hM] at hb hl ⊢
      have hlen : (A ++ (x :: (M' ++ [y])) ++ B).length = A.length + M'.length + 2 + B.length := by simp; omega
      simp only [List.length_cons, List.length_append, List.length_nil] at hb hl
      have ej : (A.length : Int) + ((x :: (M' ++ [y])).length : Nat) - 1 = ((A.length + M'.length + 1 : Nat) : Int) := by simp; omega
      rw [ej]
      refine Ev.step (fun k => by rw [slices_Reverse_l0]) ?_
      refine Ev.dT (by omega) ?_
      have gy : getI (A ++ (x :: (M' ++ [y])) ++ B) ((A.length + M'.length + 1 : Nat) : Int) = some y := by
        rw [getI_nat, show A ++ (x :: (M' ++ [y])) ++ B = (A ++ x :: M') ++ (y :: B) by simp, List.getElem?_append_right (by simp; omega)]
        simp [show A.length + M'.length + 1 - (A.length + (M'.length + 1)) = 0 by omega]
      have gx : getI (A ++ (x :: (M' ++ [y])) ++ B) (A.length : Int) = some x := by
        rw [getI_nat, List.append_assoc, List.getElem?_append_right (by omega)]
        simp
      have s1 : (A ++ (x :: (M' ++ [y])) ++ B).set A.length y = A ++ (y :: (M' ++ [y])) ++ B := by
        rw [List.append_assoc, List.set_append_right _ _ (by omega)]
        simp
      have s2 : (A ++ (y :: (M' ++ [y])) ++ B).set (A.length + M'.length + 1) x = (A ++ [y]) ++ M' ++ (x :: B) := by
        rw [show A ++ (y :: (M' ++ [y])) ++ B = (A ++ y :: M') ++ (y :: B) by simp, List.set_append_right _ _ (by simp; omega)]
        simp [show A.length + M'.length + 1 - (A.length + (M'.length + 1)) = 0 by omega]
      refine Ev.iteT ⟨by omega, by rw [hlen]; omega⟩ ?_
      refine Ev.opt gy ?_
      refine Ev.iteT ⟨by omega, by rw [hlen]; omega⟩ ?_
      refine Ev.opt gx ?_
      refine Ev.iteT ⟨by omega, by rw [hlen]; omega⟩ ?_
      refine Ev.opt gx ?_
      rw [show ((A.length : Int)).toNat = A.length by omega, show (((A.length + M'.length + 1 : Nat) : Int)).toNat = A.length + M'.length + 1 by omega, s1, s2]
      refine Ev.iteT ⟨by omega, by simp; omega⟩ ?_
      refine Ev.opt (a := y) ?_ ?_
      · rw [getI_nat, show A ++ (y :: (M' ++ [y])) ++ B = (A ++ y :: M') ++ (y :: B) by simp, List.getElem?_append_right (by simp; omega)]
        simp [show A.length + M'.length + 1 - (A.length + (M'.length + 1)) = 0 by omega]
      · rw [wrap_nat (by omega), wrap_id (by omega) (by omega)]
        have := ih (A ++ [y]) M' (x :: B) (by omega) (by simp; omega)
        rw [show ((A.length + M'.length + 1 : Nat) : Int) - 1 = ((A ++ [y]).length : Nat) + (M'.length : Int) - 1 by simp; omega, show ((A.length + 1 : Nat) : Int) = ((A ++ [y]).length : Nat) by simp]
        refine Ev.cast this ?_
        simp
theorem ev_Reverse (l : List Int) (h : l.length ≤ 1000) (h1 : 1 ≤ l.length) : Ev (fun K => slices_Reverse K l) l.reverse := by
  refine Ev.congr (f := fun K => _) ?_ (fun k => by rw [slices_Reverse])
  have := ev_rev l.length [] l [] (Nat.le_refl _) (by simp; omega)
  rw [wrap_id (by omega) (by omega)]
  simpa using this
/-- the digits from the last one on -/
def rdgF : Nat → Nat → List Int
  | 0, _ => []
  | f + 1, n => ((48 + n % 10 : Nat) : Int) :: (if n < 10 then [] else rdgF f (n / 10))
theorem rdgF_dig : ∀ (f n : Nat), n < 10 ^ f → 1 ≤ f → encB (rdgF f n).reverse = dig n
  | 0, _, _, h => by omega
  | f + 1, n, h, _ => by
    unfold rdgF
    by_cases h10 : n < 10
    · rw [if_pos h10, dig_small h10, Nat.mod_eq_of_lt h10]; rfl
    · rw [if_neg h10, dig_big h10]
      have hf : 1 ≤ f := by
        cases f with
        | zero => simp at h; omega
        | succ f => omega
      have := rdgF_dig f (n / 10) (by rw [Nat.pow_succ] at h; omega) hf
      simp only [encB] at this
      simp only [encB, List.reverse_cons, List.map_append, this, List.map_cons, List.map_nil]
      rfl
theorem ev_Number_l0 (sign : List UInt8) (hs : sign.length ≤ 10) : ∀ (f n : Nat) (acc : List Int), n < 10 ^ f → 1 ≤ f → acc.length + f ≤ 900 → n ≤ 1099511627776 → Ev (fun K => lexer_Number_l0 K (n : Int) sign acc true) (sign ++ encB (acc ++ rdgF f n).reverse)
  | 0, _, _, _, h, _, _ => by omega
  | f + 1, n, acc, h, _, ha, hn => by
    have q1 := Int.tmod_add_mul_tdiv (n : Int) 10
    have q2 := Int.tmod_lt_of_pos (n : Int) (b := 10) (by decide)
    have q4 : 0 ≤ (n : Int).tmod 10 := Int.tmod_nonneg 10 (by omega)
    have em : (n : Int).tmod 10 = ((n % 10 : Nat) : Int) := by omega
    have eq : (n : Int).tdiv 10 = ((n / 10 : Nat) : Int) := by omega
    have quo : divI .quo .u64 (n : Int) 10 = some ((n / 10 : Nat) : Int) := by
      show (if (10 : Int) = 0 then none else some (IntKind.u64.wrap ((n : Int).tdiv 10))) = _
      rw [if_neg (by decide), eq, wrapU64 (by omega) (by omega)]
    have rem : divI .rem .u64 (n : Int) 10 = some ((n % 10 : Nat) : Int) := by
      show (if (10 : Int) = 0 then none else some ((n : Int).tmod 10)) = _
      rw [if_neg (by decide), em]
    refine Ev.step (fun k => by rw [lexer_Number_l0]) ?_
    refine Ev.isT rfl ?_
    refine Ev.opt rem ?_
    rw [wrapU64 (x := 48 + ((n % 10 : Nat) : Int)) (by omega) (by omega), wrapU8 (x := 48 + ((n % 10 : Nat) : Int)) (by omega) (by omega)]
    refine Ev.opt (appL_ok (by simp; omega)) ?_
    refine Ev.opt quo ?_
    unfold rdgF
    rw [show (48 : Int) + ((n % 10 : Nat) : Int) = ((48 + n % 10 : Nat) : Int) by omega]
    by_cases h10 : n < 10
    · rw [if_pos h10, decide_eq_false (show ¬ (0 : Int) < ((n / 10 : Nat) : Int) by omega)]
      refine Ev.step (fun k => by rw [lexer_Number_l0]) ?_
      refine Ev.isF rfl ?_
      refine Ev.bind (ev_Reverse _ (by simp; omega) (by simp)) ?_
      refine Ev.iteT (by simp) ?_
      refine Ev.opt (catS_ok (by simp [encB]; omega)) Ev.pure
    · rw [if_neg h10, decide_eq_true (show (0 : Int) < ((n / 10 : Nat) : Int) by omega)]
      have hf : 1 ≤ f := by
        cases f with
        | zero => simp at h; omega
        | succ f => omega
      have := ev_Number_l0 sign hs f (n / 10) (acc ++ [((48 + n % 10 : Nat) : Int)]) (by rw [Nat.pow_succ] at h; omega) hf (by simp; omega) (by omega)
      rw [List.append_assoc] at this
      exact this
theorem ev_Number1 (n : Int) (hn : n.natAbs ≤ 1099511627776) : Ev (fun K => lexer_Number K n) (numS n) := by
  refine Ev.congr (f := fun K => _) ?_ (fun k => by rw [lexer_Number])
  have core : ∀ sign : List UInt8, sign.length ≤ 10 → Ev (fun K => lexer_Number_c0 K (n.natAbs : Int) sign) (sign ++ dig n.natAbs) := fun sign hs => by
    refine Ev.step (fun k => by rw [lexer_Number_c0]) ?_
    have := ev_Number_l0 sign hs 13 n.natAbs [] (by omega) (by omega) (by simp) hn
    rw [List.nil_append, rdgF_dig 13 _ (by omega) (by omega)] at this
    exact this
  unfold numS
  refine Ev.d (fun hneg => ?_) (fun hneg => ?_)
  · rw [if_pos hneg, wrapU64n hneg (by omega), wrapU64n (by omega) (by omega), show 0 - (n + 18446744073709551616) + 18446744073709551616 = (n.natAbs : Int) by omega]
    exact core [126] (by simp)
  · rw [if_neg hneg, wrapU64 (by omega) (by omega)]
    have := core [] (by simp)
    rwa [show (n.natAbs : Int) = n by omega] at this
end Go.Proofs.YtpplkbcfidpbcaaGreatDoor

/- The forms of expressions. -/
namespace Go.Proofs.YtpplkbcfidpbcaaGreatDoor
open Go Go.Am Go.Sx
theorem body_parts {n : Int} {nm mk : List UInt8} {ks : List Tr} {r : Row} (h : bodyS isT n nm mk ks r = true) : wordS nm r.2.2.1 = true ∧ wordS mk r.2.2.2.1 = true ∧ (r.2.2.2.2.1 ≤ n ∧ n ≤ r.2.2.2.2.2.1) ∧ kidsS isT r.2.2.2.2.2.2 ks = true := by
  unfold bodyS at h
  simp only [Bool.and_eq_true, decide_eq_true_eq] at h
  exact ⟨h.1, h.2.1, ⟨h.2.2.1, h.2.2.2.1⟩, h.2.2.2.2⟩
theorem word_e {s : List UInt8} (h : wordS s [] = true) : s = [] := of_decide_eq_true h
theorem kid_0 {l : List Tr} (h : kidsS isT [] l = true) : l = [] := List.length_eq_zero_iff.1 (of_decide_eq_true h)
theorem kid_e {l : List Tr} (h : kidsS isT [101] l = true) : ∃ x, l = [x] ∧ isT 2 x = true := by
  rw [kidsS_1 (a := 101) (c := 2) (by decide) (by decide) (by decide) rfl] at h
  exact k1S_form h
theorem kid_ee {l : List Tr} (h : kidsS isT [101, 101] l = true) : ∃ x y, l = [x, y] ∧ isT 2 x = true ∧ isT 2 y = true := by
  rw [kidsS_2 (a := 101) (b := 101) (c := 2) (d := 2) (by decide) (by decide) (by decide) (by decide) (by decide) (by decide) rfl rfl] at h
  exact k2S_form h
theorem kid_te {l : List Tr} (h : kidsS isT [116, 101] l = true) : ∃ x y, l = [x, y] ∧ isT 1 x = true ∧ isT 2 y = true := by
  rw [kidsS_2 (a := 116) (b := 101) (c := 1) (d := 2) (by decide) (by decide) (by decide) (by decide) (by decide) (by decide) rfl rfl] at h
  exact k2S_form h
theorem kid_eee {l : List Tr} (h : kidsS isT [101, 101, 101] l = true) : ∃ x y z, l = [x, y, z] ∧ isT 2 x = true ∧ isT 2 y = true ∧ isT 2 z = true := by
  match l with
  | [] => cases h
  | x :: r =>
    have e : kidsS isT [101, 101, 101] (x :: r) = (isT 2 x && kidsS isT [101, 101] r) := rfl
    rw [e, Bool.and_eq_true] at h
    obtain ⟨y, z, rfl, hy, hz⟩ := kid_ee h.2
    exact ⟨x, y, z, rfl, h.1, hy, hz⟩
theorem kid_A {l : List Tr} (h : kidsS isT [65] l = true) : l ≠ [] ∧ ∀ y ∈ l, isT 9 y = true := by
  have e : kidsS isT [65] l = (l.all (isT 9) && decide (0 < l.length)) := rfl
  rw [e, Bool.and_eq_true] at h
  refine ⟨fun hn => ?_, fun y hy => List.all_eq_true.1 h.1 y hy⟩
  rw [hn] at h; simp at h
theorem kid_eA {l : List Tr} (h : kidsS isT [101, 65] l = true) : ∃ x r, l = x :: r ∧ isT 2 x = true ∧ r ≠ [] ∧ ∀ y ∈ r, isT 9 y = true := by
  match l with
  | [] => cases h
  | x :: r =>
    have e : kidsS isT [101, 65] (x :: r) = (isT 2 x && kidsS isT [65] r) := rfl
    rw [e, Bool.and_eq_true] at h
    exact ⟨x, r, rfl, h.1, kid_A h.2⟩
theorem kid_etA {l : List Tr} (h : kidsS isT [101, 116, 65] l = true) : ∃ x t r, l = x :: t :: r ∧ isT 2 x = true ∧ isT 1 t = true ∧ r ≠ [] ∧ ∀ y ∈ r, isT 9 y = true := by
  match l with
  | [] => cases h
  | [x] =>
    have e : kidsS isT [101, 116, 65] [x] = (isT 2 x && false) := rfl
    rw [e, Bool.and_false] at h; cases h
  | x :: t :: r =>
    have e : kidsS isT [101, 116, 65] (x :: t :: r) = (isT 2 x && (isT 1 t && kidsS isT [65] r)) := rfl
    rw [e, Bool.and_eq_true, Bool.and_eq_true] at h
    exact ⟨x, t, r, rfl, h.1, h.2.1, kid_A h.2.2⟩
/-- the forms of an expression -/
inductive Ex : Tr → Prop
  | int (n : Int) (h : -1073741824 ≤ n ∧ n ≤ 1073741824) : Ex (.node 20 n [] [] [])
  | bool (n : Int) (h : n = 0 ∨ n = 1) : Ex (.node 21 n [] [] [])
  | unit : Ex (.node 22 0 [] [] [])
  | var (s : List UInt8) (h : lgS s = true) : Ex (.node 23 0 s [] [])
  | lam (s : List UInt8) (t b : Tr) (h : ckS s = true) (ht : isT 1 t = true) (hb : isT 2 b = true) : Ex (.node 24 0 s [] [t, b])
  | app (a b : Tr) (ha : isT 2 a = true) (hb : isT 2 b = true) : Ex (.node 25 0 [] [] [a, b])
  | pair (a b : Tr) (ha : isT 2 a = true) (hb : isT 2 b = true) : Ex (.node 26 0 [] [] [a, b])
  | fst (a : Tr) (ha : isT 2 a = true) : Ex (.node 27 0 [] [] [a])
  | snd (a : Tr) (ha : isT 2 a = true) : Ex (.node 28 0 [] [] [a])
  | let_ (s : List UInt8) (a b : Tr) (h : ckS s = true) (ha : isT 2 a = true) (hb : isT 2 b = true) : Ex (.node 29 0 s [] [a, b])
  | if_ (a b c : Tr) (ha : isT 2 a = true) (hb : isT 2 b = true) (hc : isT 2 c = true) : Ex (.node 30 0 [] [] [a, b, c])
  | op (n : Int) (a b : Tr) (h : 1 ≤ n ∧ n ≤ 5) (ha : isT 2 a = true) (hb : isT 2 b = true) : Ex (.node 31 n [] [] [a, b])
  | case_ (a : Tr) (r : List Tr) (ha : isT 2 a = true) (h0 : r ≠ []) (hr : ∀ y ∈ r, isT 9 y = true) : Ex (.node 32 0 [] [] (a :: r))
  | fold_ (a t : Tr) (r : List Tr) (ha : isT 2 a = true) (ht : isT 1 t = true) (h0 : r ≠ []) (hr : ∀ y ∈ r, isT 9 y = true) : Ex (.node 33 0 [] [] (a :: t :: r))
theorem ex_of {t : Tr} (h : isT 2 t = true) : Ex t := by
  obtain ⟨k, n, nm, mk, ks, rfl⟩ := node_of h
  have hk : k ∈ kindsOf 2 := by
    by_cases e : k ∈ kindsOf 2
    · exact e
    · rw [isT_none e] at h; cases h
  have hk : k = 20 ∨ k = 21 ∨ k = 22 ∨ k = 23 ∨ k = 24 ∨ k = 25 ∨ k = 26 ∨ k = 27 ∨ k = 28 ∨ k = 29 ∨ k = 30 ∨ k = 31 ∨ k = 32 ∨ k = 33 := by
    simpa [show kindsOf 2 = [20, 21, 22, 23, 24, 25, 26, 27, 28, 29, 30, 31, 32, 33] from rfl] using hk
  rcases hk with rfl | rfl | rfl | rfl | rfl | rfl | rfl | rfl | rfl | rfl | rfl | rfl | rfl | rfl
  · rw [isT_row (r := (2, 20, [], [], -1073741824, 1073741824, [])) rfl] at h
    obtain ⟨h1, h2, h3, h4⟩ := body_parts h
    obtain rfl := word_e h1; obtain rfl := word_e h2; obtain rfl := kid_0 h4
    exact .int n h3
  · rw [isT_row (r := (2, 21, [], [], 0, 1, [])) rfl] at h
    obtain ⟨h1, h2, h3, h4⟩ := body_parts h
    obtain rfl := word_e h1; obtain rfl := word_e h2; obtain rfl := kid_0 h4
    have h3 : 0 ≤ n ∧ n ≤ 1 := h3
    exact .bool n (by omega)
  · rw [isT_row (r := (2, 22, [], [], 0, 0, [])) rfl] at h
    obtain ⟨h1, h2, h3, h4⟩ := body_parts h
    obtain rfl := word_e h1; obtain rfl := word_e h2; obtain rfl := kid_0 h4
    have h3 : 0 ≤ n ∧ n ≤ 0 := h3
    obtain rfl : n = 0 := by omega
    exact .unit
  · rw [isT_row (r := (2, 23, [108], [], 0, 0, [])) rfl] at h
    obtain ⟨h1, h2, h3, h4⟩ := body_parts h
    obtain rfl := word_e h2; obtain rfl := kid_0 h4
    have h3 : 0 ≤ n ∧ n ≤ 0 := h3
    obtain rfl : n = 0 := by omega
    exact .var nm h1
  · rw [isT_row (r := (2, 24, [110], [], 0, 0, [116, 101])) rfl] at h
    obtain ⟨h1, h2, h3, h4⟩ := body_parts h
    obtain rfl := word_e h2; obtain ⟨x, y, rfl, hx, hy⟩ := kid_te h4
    have h3 : 0 ≤ n ∧ n ≤ 0 := h3
    obtain rfl : n = 0 := by omega
    exact .lam nm x y h1 hx hy
  · rw [isT_row (r := (2, 25, [], [], 0, 0, [101, 101])) rfl] at h
    obtain ⟨h1, h2, h3, h4⟩ := body_parts h
    obtain rfl := word_e h1; obtain rfl := word_e h2; obtain ⟨x, y, rfl, hx, hy⟩ := kid_ee h4
    have h3 : 0 ≤ n ∧ n ≤ 0 := h3
    obtain rfl : n = 0 := by omega
    exact .app x y hx hy
  · rw [isT_row (r := (2, 26, [], [], 0, 0, [101, 101])) rfl] at h
    obtain ⟨h1, h2, h3, h4⟩ := body_parts h
    obtain rfl := word_e h1; obtain rfl := word_e h2; obtain ⟨x, y, rfl, hx, hy⟩ := kid_ee h4
    have h3 : 0 ≤ n ∧ n ≤ 0 := h3
    obtain rfl : n = 0 := by omega
    exact .pair x y hx hy
  · rw [isT_row (r := (2, 27, [], [], 0, 0, [101])) rfl] at h
    obtain ⟨h1, h2, h3, h4⟩ := body_parts h
    obtain rfl := word_e h1; obtain rfl := word_e h2; obtain ⟨x, rfl, hx⟩ := kid_e h4
    have h3 : 0 ≤ n ∧ n ≤ 0 := h3
    obtain rfl : n = 0 := by omega
    exact .fst x hx
  · rw [isT_row (r := (2, 28, [], [], 0, 0, [101])) rfl] at h
    obtain ⟨h1, h2, h3, h4⟩ := body_parts h
    obtain rfl := word_e h1; obtain rfl := word_e h2; obtain ⟨x, rfl, hx⟩ := kid_e h4
    have h3 : 0 ≤ n ∧ n ≤ 0 := h3
    obtain rfl : n = 0 := by omega
    exact .snd x hx
  · rw [isT_row (r := (2, 29, [110], [], 0, 0, [101, 101])) rfl] at h
    obtain ⟨h1, h2, h3, h4⟩ := body_parts h
    obtain rfl := word_e h2; obtain ⟨x, y, rfl, hx, hy⟩ := kid_ee h4
    have h3 : 0 ≤ n ∧ n ≤ 0 := h3
    obtain rfl : n = 0 := by omega
    exact .let_ nm x y h1 hx hy
  · rw [isT_row (r := (2, 30, [], [], 0, 0, [101, 101, 101])) rfl] at h
    obtain ⟨h1, h2, h3, h4⟩ := body_parts h
    obtain rfl := word_e h1; obtain rfl := word_e h2; obtain ⟨x, y, z, rfl, hx, hy, hz⟩ := kid_eee h4
    have h3 : 0 ≤ n ∧ n ≤ 0 := h3
    obtain rfl : n = 0 := by omega
    exact .if_ x y z hx hy hz
  · rw [isT_row (r := (2, 31, [], [], 1, 5, [101, 101])) rfl] at h
    obtain ⟨h1, h2, h3, h4⟩ := body_parts h
    obtain rfl := word_e h1; obtain rfl := word_e h2; obtain ⟨x, y, rfl, hx, hy⟩ := kid_ee h4
    exact .op n x y h3 hx hy
  · rw [isT_row (r := (2, 32, [], [], 0, 0, [101, 65])) rfl] at h
    obtain ⟨h1, h2, h3, h4⟩ := body_parts h
    obtain rfl := word_e h1; obtain rfl := word_e h2; obtain ⟨x, r, rfl, hx, h0, hr⟩ := kid_eA h4
    have h3 : 0 ≤ n ∧ n ≤ 0 := h3
    obtain rfl : n = 0 := by omega
    exact .case_ x r hx h0 hr
  · rw [isT_row (r := (2, 33, [], [], 0, 0, [101, 116, 65])) rfl] at h
    obtain ⟨h1, h2, h3, h4⟩ := body_parts h
    obtain rfl := word_e h1; obtain rfl := word_e h2; obtain ⟨x, t, r, rfl, hx, ht, h0, hr⟩ := kid_etA h4
    have h3 : 0 ≤ n ∧ n ≤ 0 := h3
    obtain rfl : n = 0 := by omega
    exact .fold_ x t r hx ht h0 hr
/-- the form of an arm -/
theorem arm_of {y : Tr} (h : isT 9 y = true) : ∃ c x e, y = .node 34 0 c x [e] ∧ ckS c = true ∧ ckS x = true ∧ isT 2 e = true := by
  obtain ⟨k, n, nm, mk, ks, rfl⟩ := node_of h
  have hk : k = 34 := by
    by_cases e : k ∈ kindsOf 9
    · simpa [show kindsOf 9 = [34] from rfl] using e
    · rw [isT_none e] at h; cases h
  subst hk
  rw [isT_row (r := (9, 34, [110], [110], 0, 0, [101])) rfl] at h
  obtain ⟨h1, h2, h3, h4⟩ := body_parts h
  obtain ⟨x, rfl, hx⟩ := kid_e h4
  have h3 : 0 ≤ n ∧ n ≤ 0 := h3
  obtain rfl : n = 0 := by omega
  exact ⟨nm, mk, x, rfl, h1, h2, hx⟩
end Go.Proofs.YtpplkbcfidpbcaaGreatDoor

/- The program's writer of expressions, form by form: what it writes out of what it writes of the kids. -/
namespace Go.Proofs.YtpplkbcfidpbcaaGreatDoor
open Go Go.Am Go.Sx
/-- the tightest rule that an operation may stand as -/
def lvO (n : Int) : Int := if n < 3 then 2 else if n = 3 then 3 else 1
def lfO (n : Int) : Int := if n = 3 then 3 else 2
def sgO (n : Int) : List UInt8 := if n = 1 then [32, 43, 32] else if n = 2 then [32, 45, 32] else if n = 3 then [32, 42, 32] else if n = 4 then [32, 61, 32] else [32, 60, 32]
/-- the tightest rule that an expression may stand as -/
def lvE : Tr → Int
  | .nil => 5
  | .node k n _ _ _ => if k = 24 then 0 else if k = 29 then 0 else if k = 30 then 0 else if k = 32 then 0 else if k = 33 then 0 else if k = 25 then 4 else if k = 31 then lvO n else 5
theorem lvE_0 (t : Tr) : ¬ lvE t < 0 := by
  cases t with
  | nil => decide
  | node k n nm mk ks => unfold lvE lvO; simp only []; (repeat' split) <;> decide
/-- the program writes it so, in signs where a tighter rule must stand -/
def PW (t : Tr) (v : List UInt8) : Prop := ∀ lv : Int, lv ≤ 5 → Ev (fun K => pexpr_write K t lv) (par (decide (lvE t < lv)) v)
theorem PW.zero {t : Tr} {v : List UInt8} (h : PW t v) : Ev (fun K => pexpr_write K t 0) v := by
  have := h 0 (by decide)
  rwa [decide_eq_false (lvE_0 t)] at this
theorem pw1 {k n : Int} {nm mk : List UInt8} {ks : List Tr} {i lv : Int} {x : Tr} {v : List UInt8} (hg : getI ks i = some x) (h : Ev (fun K => pexpr_write K x lv) v) : Ev (fun K => pexpr_write_1 K i lv (.node k n nm mk ks)) v := by
  refine Ev.step (fun k => by rw [pexpr_write_1]) ?_
  exact Ev.opt hg (Ev.ret h)
theorem ev_paren7 (b : Bool) (s : List UInt8) (hs : s.length ≤ 1125899906842624) : Ev (fun K => pexpr_paren K b s) (par b s) := by
  refine Ev.congr (f := fun K => _) ?_ (fun k => by rw [pexpr_paren])
  unfold par
  cases b
  · exact Ev.isF rfl Ev.pure
  · exact Ev.isT rfl (Ev.opt (catS_ok (by simp; omega)) (Ev.opt (catS_ok (by simp; omega)) Ev.pure))
theorem par_at {t : Tr} {lv : Int} {v : List UInt8} (h5 : lvE t = 5) (hl : lv ≤ 5) : par (decide (lvE t < lv)) v = v := by
  rw [decide_eq_false (by omega)]; rfl
section
variable {n : Int} {nm mk : List UInt8} {ks : List Tr}
theorem pw_int (h : n.natAbs ≤ 1099511627776) : PW (.node 20 n nm mk ks) (numS n) := fun lv hl => by
  rw [par_at rfl hl]
  refine Ev.step (fun k => by rw [pexpr_write]) ?_
  exact Ev.dT rfl (Ev.ret (ev_Number1 n h))
def boolS (n : Int) : List UInt8 := if n = 1 then [116, 114, 117, 101] else [102, 97, 108, 115, 101]
theorem pw_bool : PW (.node 21 n nm mk ks) (boolS n) := fun lv hl => by
  rw [par_at rfl hl]
  refine Ev.step (fun k => by rw [pexpr_write]) ?_
  refine Ev.dF (by decide) (Ev.dT rfl ?_)
  unfold boolS
  exact Ev.d (fun h => Ev.pure' (by rw [if_pos h])) (fun h => Ev.pure' (by rw [if_neg h]))
theorem pw_unit : PW (.node 22 n nm mk ks) [40, 32, 41] := fun lv hl => by
  rw [par_at rfl hl]
  refine Ev.step (fun k => by rw [pexpr_write]) ?_
  exact Ev.dF (by decide) (Ev.dF (by decide) (Ev.dT rfl Ev.pure))
theorem pw_var : PW (.node 23 n nm mk ks) nm := fun lv hl => by
  rw [par_at rfl hl]
  refine Ev.step (fun k => by rw [pexpr_write]) ?_
  exact Ev.dF (by decide) (Ev.dF (by decide) (Ev.dF (by decide) (Ev.dT rfl Ev.pure)))
variable {x y z : Tr} {vx vy vz : List UInt8}
theorem pw_pair (hx : PW x vx) (hy : PW y vy) (lx : vx.length ≤ 1099511627776) (ly : vy.length ≤ 1099511627776) : PW (.node 26 n nm mk [x, y]) ([40, 32] ++ vx ++ [32, 44, 32] ++ vy ++ [32, 41]) := fun lv hl => by
  rw [par_at rfl hl]
  refine Ev.step (fun k => by rw [pexpr_write]) ?_
  repeat' first | refine Ev.dT rfl ?_ | refine Ev.dF (by decide) ?_
  refine Ev.bind (pw1 rfl hx.zero) ?_
  refine Ev.opt (catS_ok (by simp; omega)) ?_
  refine Ev.opt (catS_ok (by simp; omega)) ?_
  refine Ev.bind (pw1 rfl hy.zero) ?_
  refine Ev.opt (catS_ok (by simp; omega)) ?_
  exact Ev.opt (catS_ok (by simp; omega)) Ev.pure
theorem pw_fst (hx : PW x vx) (lx : vx.length ≤ 1099511627776) : PW (.node 27 n nm mk [x]) ([35, 49, 32] ++ par (decide (lvE x < 5)) vx) := fun lv hl => by
  have px := par_len (decide (lvE x < 5)) vx
  rw [par_at rfl hl]
  refine Ev.step (fun k => by rw [pexpr_write]) ?_
  repeat' first | refine Ev.dT rfl ?_ | refine Ev.dF (by decide) ?_
  refine Ev.bind (pw1 rfl (hx 5 (by decide))) ?_
  exact Ev.opt (catS_ok (by simp; omega)) Ev.pure
theorem pw_snd (hx : PW x vx) (lx : vx.length ≤ 1099511627776) : PW (.node 28 n nm mk [x]) ([35, 50, 32] ++ par (decide (lvE x < 5)) vx) := fun lv hl => by
  have px := par_len (decide (lvE x < 5)) vx
  rw [par_at rfl hl]
  refine Ev.step (fun k => by rw [pexpr_write]) ?_
  repeat' first | refine Ev.dT rfl ?_ | refine Ev.dF (by decide) ?_
  refine Ev.bind (pw1 rfl (hx 5 (by decide))) ?_
  exact Ev.opt (catS_ok (by simp; omega)) Ev.pure
theorem pw_app (hx : PW x vx) (hy : PW y vy) (lx : vx.length ≤ 1099511627776) (ly : vy.length ≤ 1099511627776) : PW (.node 25 n nm mk [x, y]) (par (decide (lvE x < 4)) vx ++ [32] ++ par (decide (lvE y < 5)) vy) := fun lv hl => by
  have px := par_len (decide (lvE x < 4)) vx
  have py := par_len (decide (lvE y < 5)) vy
  refine Ev.step (fun k => by rw [pexpr_write]) ?_
  repeat' first | refine Ev.dT rfl ?_ | refine Ev.dF (by decide) ?_
  refine Ev.bind (pw1 rfl (hx 4 (by decide))) ?_
  refine Ev.opt (catS_ok (by simp; omega)) ?_
  refine Ev.bind (pw1 rfl (hy 5 (by decide))) ?_
  refine Ev.opt (catS_ok (by simp; omega)) ?_
  exact Ev.ret (ev_paren7 _ _ (by simp; omega))
theorem pw_op (hn : 1 ≤ n ∧ n ≤ 5) (hx : PW x vx) (hy : PW y vy) (lx : vx.length ≤ 1099511627776) (ly : vy.length ≤ 1099511627776) : PW (.node 31 n nm mk [x, y]) (par (decide (lvE x < lfO n)) vx ++ sgO n ++ par (decide (lvE y < lvO n + 1)) vy) := fun lv hl => by
  refine Ev.step (fun k => by rw [pexpr_write]) ?_
  repeat' first | refine Ev.dT rfl ?_ | refine Ev.dF (by decide) ?_
  refine Ev.ret ?_
  have core : ∀ (own lf : Int) (sg : List UInt8), 0 ≤ own ∧ own ≤ 4 → lf ≤ 5 → sg.length = 3 → Ev (fun K => pexpr_writeOp_c0 K (.node 31 n nm mk [x, y]) lv own lf sg) (par (decide (own < lv)) (par (decide (lvE x < lf)) vx ++ sg ++ par (decide (lvE y < own + 1)) vy)) := by
    intro own lf sg ho hf hs
    have px := par_len (decide (lvE x < lf)) vx
    have py := par_len (decide (lvE y < own + 1)) vy
    refine Ev.step (fun k => by rw [pexpr_writeOp_c0]) ?_
    refine Ev.opt (a := x) rfl ?_
    refine Ev.opt (a := y) rfl ?_
    refine Ev.bind (hx lf hf) ?_
    refine Ev.opt (catS_ok (by omega)) ?_
    rw [wrap_id (by omega) (by omega)]
    refine Ev.bind (hy (own + 1) (by omega)) ?_
    refine Ev.opt (catS_ok (by simp; omega)) ?_
    exact Ev.ret (ev_paren7 _ _ (by simp; omega))
  refine Ev.step (fun k => by rw [pexpr_writeOp]) ?_
  have h5 : n = 1 ∨ n = 2 ∨ n = 3 ∨ n = 4 ∨ n = 5 := by omega
  rcases h5 with rfl | rfl | rfl | rfl | rfl
  · exact Ev.dT rfl (core 2 2 _ (by decide) (by decide) rfl)
  · exact Ev.dF (by decide) (Ev.dT rfl (core 2 2 _ (by decide) (by decide) rfl))
  · exact Ev.dF (by decide) (Ev.dF (by decide) (Ev.dT rfl (core 3 3 _ (by decide) (by decide) rfl)))
  · exact Ev.dF (by decide) (Ev.dF (by decide) (Ev.dF (by decide) (Ev.dT rfl (core 1 2 _ (by decide) (by decide) rfl))))
  · exact Ev.dF (by decide) (Ev.dF (by decide) (Ev.dF (by decide) (Ev.dF (by decide) (core 1 2 _ (by decide) (by decide) rfl))))
theorem pw_lam (ht : Ev (fun K => pexpr_written K x) vx) (hy : PW y vy) (ln : nm.length ≤ 1000) (lx : vx.length ≤ 1099511627776) (ly : vy.length ≤ 1099511627776) :
    PW (.node 24 n nm mk [x, y]) ([102, 110, 32, 40, 32] ++ nm ++ [32, 58, 32] ++ vx ++ [32, 41, 32, 61, 62, 32] ++ vy) := fun lv hl => by
  refine Ev.step (fun k => by rw [pexpr_write]) ?_
  repeat' first | refine Ev.dT rfl ?_ | refine Ev.dF (by decide) ?_
  refine Ev.opt (catS_ok (by simp; omega)) ?_
  refine Ev.opt (catS_ok (by simp; omega)) ?_
  refine Ev.opt (a := x) rfl ?_
  refine Ev.bind ht ?_
  refine Ev.opt (catS_ok (by simp; omega)) ?_
  refine Ev.opt (catS_ok (by simp; omega)) ?_
  refine Ev.bind (pw1 rfl hy.zero) ?_
  refine Ev.opt (catS_ok (by simp; omega)) ?_
  exact Ev.ret (ev_paren7 _ _ (by simp; omega))
theorem pw_let (hx : PW x vx) (hy : PW y vy) (ln : nm.length ≤ 1000) (lx : vx.length ≤ 1099511627776) (ly : vy.length ≤ 1099511627776) :
    PW (.node 29 n nm mk [x, y]) ([108, 101, 116, 32] ++ nm ++ [32, 61, 32] ++ vx ++ [32, 105, 110, 32] ++ vy ++ [32, 101, 110, 100]) := fun lv hl => by
  refine Ev.step (fun k => by rw [pexpr_write]) ?_
  repeat' first | refine Ev.dT rfl ?_ | refine Ev.dF (by decide) ?_
  refine Ev.opt (catS_ok (by simp; omega)) ?_
  refine Ev.opt (catS_ok (by simp; omega)) ?_
  refine Ev.bind (pw1 rfl hx.zero) ?_
  refine Ev.opt (catS_ok (by simp; omega)) ?_
  refine Ev.opt (catS_ok (by simp; omega)) ?_
  refine Ev.bind (pw1 rfl hy.zero) ?_
  refine Ev.opt (catS_ok (by simp; omega)) ?_
  refine Ev.opt (catS_ok (by simp; omega)) ?_
  exact Ev.ret (ev_paren7 _ _ (by simp; omega))
theorem pw_if (hx : PW x vx) (hy : PW y vy) (hz : PW z vz) (lx : vx.length ≤ 1099511627776) (ly : vy.length ≤ 1099511627776) (lz : vz.length ≤ 109951162777) :
    PW (.node 30 n nm mk [x, y, z]) ([105, 102, 32] ++ vx ++ [32, 116, 104, 101, 110, 32] ++ vy ++ [32, 101, 108, 115, 101, 32] ++ vz) := fun lv hl => by
  refine Ev.step (fun k => by rw [pexpr_write]) ?_
  repeat' first | refine Ev.dT rfl ?_ | refine Ev.dF (by decide) ?_
  refine Ev.bind (pw1 rfl hx.zero) ?_
  refine Ev.opt (catS_ok (by simp; omega)) ?_
  refine Ev.opt (catS_ok (by simp; omega)) ?_
  refine Ev.bind (pw1 rfl hy.zero) ?_
  refine Ev.opt (catS_ok (by simp; omega)) ?_
  refine Ev.opt (catS_ok (by simp; omega)) ?_
  refine Ev.bind (pw1 rfl hz.zero) ?_
  refine Ev.opt (catS_ok (by simp; omega)) ?_
  exact Ev.ret (ev_paren7 _ _ (by simp; omega))
/-- an arm: its name, its variable, its expression, that one's text -/
abbrev AT := List UInt8 × List UInt8 × Tr × List UInt8
def aTr (a : AT) : Tr := .node 34 0 a.1 a.2.1 [a.2.2.1]
def aTx (a : AT) : List UInt8 := a.1 ++ [32] ++ a.2.1 ++ [32, 61, 62, 32] ++ a.2.2.2
abbrev barA : List UInt8 := [32, 124, 32]
def AOk (a : AT) : Prop := a.1.length ≤ 1000 ∧ a.2.1.length ≤ 1000 ∧ PW a.2.2.1 a.2.2.2 ∧ a.2.2.2.length ≤ 109951162777
def armsS (L : List AT) : List UInt8 := Lib.join (L.map aTx) barA ++ [32, 101, 110, 100]
theorem ev_arms1 {L : List AT} (hL : ∀ a ∈ L, AOk a) (hn : L.length ≤ 1048576) (hj : (Lib.join (L.map aTx) barA).length ≤ 1099511627776) : Ev (fun K => pexpr_writeArms K (L.map aTr)) (armsS L) := by
  refine Ev.step (fun k => by rw [pexpr_writeArms]) ?_
  have loop : ∀ (m i : Nat), L.length = i + m → Ev (fun K => pexpr_writeArms_l0 K ((L.map aTx).take i) (L.map aTr) (i : Int)) (armsS L) := by
    intro m
    induction m with
    | zero =>
      intro i hi
      rw [List.take_of_length_le (by simp; omega)]
      refine Ev.step (fun k => by rw [pexpr_writeArms_l0]) ?_
      refine Ev.dF (by simp; omega) (Ev.bind (a := Lib.join (L.map aTx) barA) ⟨0, fun K _ => ?_⟩ ?_)
      · show (if _ then _ else _) = _
        rw [if_pos ⟨by have : (Lib.join (L.map aTx) [32, 124, 32]).length ≤ 1099511627776 := hj; omega, by simp; omega⟩]
      · exact Ev.opt (catS_ok (by simp; omega)) Ev.pure
    | succ m ih =>
      intro i hi
      have hlt : i < L.length := by omega
      have hx : i < (L.map aTx).length := by simp; omega
      have hr : i < (L.map aTr).length := by simp; omega
      obtain ⟨o1, o2, o3, o4⟩ := hL _ (List.getElem_mem hlt)
      refine Ev.step (fun k => by rw [pexpr_writeArms_l0]) ?_
      refine Ev.dT (by omega) (Ev.opt (getI_lt hr) ?_)
      rw [List.getElem_map]
      show Ev (fun K => (Am.catS L[i].1 [32]).bind fun v8 => ((Am.catS v8 L[i].2.1).bind fun v9 => ((Am.catS v9 ([32, 61, 62, 32] : List UInt8)).bind fun v10 => ((getI [L[i].2.2.1] 0).bind fun v11 => ((pexpr_write K v11 0).bind fun v12 => ((Am.catS v10 v12).bind fun v13 => ((appL 16 ((L.map aTx).take i) ([v13] : List (List UInt8))).bind fun v14 => (pexpr_writeArms_l0 K v14 (L.map aTr) (IntKind.i64.wrap ((i : Int) + 1)))))))))) _
      refine Ev.opt (catS_ok (by simp; omega)) ?_
      refine Ev.opt (catS_ok (by simp; omega)) ?_
      refine Ev.opt (catS_ok (by simp; omega)) ?_
      refine Ev.opt (a := L[i].2.2.1) rfl ?_
      refine Ev.bind o3.zero ?_
      refine Ev.opt (catS_ok (by simp; omega)) ?_
      refine Ev.opt (appL_ok (by simp; omega)) ?_
      rw [wrap_nat (by omega)]
      have := ih (i + 1) (by omega)
      rw [take_get' hx, List.getElem_map] at this
      exact this
  have := loop L.length 0 (by omega)
  simpa using this
theorem pw_case {L : List AT} (hx : PW x vx) (lx : vx.length ≤ 1099511627776) (hL : ∀ a ∈ L, AOk a) (hn : L.length ≤ 1048576) (hj : (Lib.join (L.map aTx) barA).length ≤ 1099511627776) :
    PW (.node 32 n nm mk (x :: L.map aTr)) ([99, 97, 115, 101, 32] ++ vx ++ [32, 111, 102, 32] ++ armsS L) := fun lv hl => by
  have ha : (armsS L).length ≤ 1099511627780 := by unfold armsS; simp; omega
  refine Ev.step (fun k => by rw [pexpr_write]) ?_
  repeat' first | refine Ev.dT rfl ?_ | refine Ev.dF (by decide) ?_
  have e := subL_ok (l := x :: L.map aTr) (a := 1) (b := (x :: L.map aTr).length) (by simp) (Nat.le_refl _)
  rw [List.take_length, List.drop_succ_cons, List.drop_zero] at e
  refine Ev.opt e ?_
  refine Ev.bind (pw1 rfl hx.zero) ?_
  refine Ev.opt (catS_ok (by simp; omega)) ?_
  refine Ev.opt (catS_ok (by simp; omega)) ?_
  refine Ev.bind (ev_arms1 hL hn hj) ?_
  refine Ev.opt (catS_ok (by simp; omega)) ?_
  exact Ev.ret (ev_paren7 _ _ (by simp; omega))
theorem pw_fold {L : List AT} (hx : PW x vx) (lx : vx.length ≤ 1099511627776) (ht : Ev (fun K => pexpr_written K y) vy) (ly : vy.length ≤ 1099511627776) (hL : ∀ a ∈ L, AOk a) (hn : L.length ≤ 1048576) (hj : (Lib.join (L.map aTx) barA).length ≤ 1099511627776) :
    PW (.node 33 n nm mk (x :: y :: L.map aTr)) ([102, 111, 108, 100, 32] ++ vx ++ [32, 116, 111, 32] ++ vy ++ [32, 111, 102, 32] ++ armsS L) := fun lv hl => by
  have ha : (armsS L).length ≤ 1099511627780 := by unfold armsS; simp; omega
  refine Ev.step (fun k => by rw [pexpr_write]) ?_
  repeat' first | refine Ev.dF (by decide) ?_
  refine Ev.opt (a := y) rfl ?_
  have e := subL_ok (l := x :: y :: L.map aTr) (a := 2) (b := (x :: y :: L.map aTr).length) (by simp) (Nat.le_refl _)
  rw [List.take_length, List.drop_succ_cons, List.drop_succ_cons, List.drop_zero] at e
  refine Ev.opt e ?_
  refine Ev.bind (pw1 rfl hx.zero) ?_
  refine Ev.opt (catS_ok (by simp; omega)) ?_
  refine Ev.opt (catS_ok (by simp; omega)) ?_
  refine Ev.bind ht ?_
  refine Ev.opt (catS_ok (by simp; omega)) ?_
  refine Ev.opt (catS_ok (by simp; omega)) ?_
  refine Ev.bind (ev_arms1 hL hn hj) ?_
  refine Ev.opt (catS_ok (by simp; omega)) ?_
  exact Ev.ret (ev_paren7 _ _ (by simp; omega))
end
end Go.Proofs.YtpplkbcfidpbcaaGreatDoor

/- Types as words, and the parser on them. -/
namespace Go.Proofs.YtpplkbcfidpbcaaGreatDoor
open Go Go.Am Go.Sx
abbrev Wd := Int × List UInt8
def kt (k : Token) : Wd := (k.1, k.2.1)
/-- from a place on these words stand -/
def At (l : List Token) (i : Nat) (m : List Wd) : Prop := (l.map kt).drop i = m
def kW (m : List Wd) (s : List UInt8) : Bool := match m with
  | x :: _ => decide (x.1 = 3) && decide (x.2 = s)
  | [] => false
def nW (m : List Wd) : List UInt8 × Bool := match m with
  | x :: _ => if x.1 = 1 ∧ ckS x.2 = true then (x.2, true) else ([], false)
  | [] => ([], false)
def gW (m : List Wd) : List UInt8 × Bool := match m with
  | x :: _ => if x.1 = 1 ∧ lgS x.2 = true then (x.2, true) else ([], false)
  | [] => ([], false)
theorem At.tok {l : List Token} {i : Nat} {x : Wd} {m : List Wd} (h : At l i (x :: m)) : ∃ k, tokAt l (i : Int) = some k ∧ kt k = x := by
  unfold At at h
  have hlt : i < (l.map kt).length := by
    rcases Nat.lt_or_ge i (l.map kt).length with h1 | h1
    · exact h1
    · rw [List.drop_of_length_le h1] at h; cases h
  rw [List.drop_eq_getElem_cons hlt] at h
  have h1 := (List.cons.inj h).1
  rw [List.getElem_map] at h1
  rw [List.length_map] at hlt
  exact ⟨l[i], by unfold tokAt; rw [if_pos (by omega)]; exact getI_lt hlt, h1⟩
theorem At.none {l : List Token} {i : Nat} (h : At l i []) : tokAt l (i : Int) = none := by
  unfold At at h
  have := congrArg List.length h
  rw [List.length_drop, List.length_map, List.length_nil] at this
  exact tok_none (by omega)
theorem At.key {l : List Token} {i : Nat} {m : List Wd} (h : At l i m) (s : List UInt8) : keyS l (i : Int) s = kW m s := by
  cases m with
  | nil => unfold keyS kW; rw [h.none]
  | cons x m =>
    obtain ⟨k, h1, h2⟩ := h.tok
    unfold keyS kW; rw [h1, ← h2]; rfl
theorem At.name {l : List Token} {i : Nat} {m : List Wd} (h : At l i m) : nameS l (i : Int) = nW m := by
  cases m with
  | nil => unfold nameS nW; rw [h.none]
  | cons x m =>
    obtain ⟨k, h1, h2⟩ := h.tok
    unfold nameS nW; rw [h1, ← h2]; rfl
theorem At.long {l : List Token} {i : Nat} {m : List Wd} (h : At l i m) : longS l (i : Int) = gW m := by
  cases m with
  | nil => unfold longS gW; rw [h.none]
  | cons x m =>
    obtain ⟨k, h1, h2⟩ := h.tok
    unfold longS gW; rw [h1, ← h2]; rfl
theorem At.app {l : List Token} {i : Nat} {a b : List Wd} (h : At l i (a ++ b)) : At l (i + a.length) b := by
  unfold At at h ⊢
  rw [← List.drop_drop, h]
  simp
theorem At.next {l : List Token} {i : Nat} {x : Wd} {b : List Wd} (h : At l i (x :: b)) : At l (i + 1) b := At.app (a := [x]) h
theorem gW3 {s : List UInt8} {m : List Wd} : gW ((3, s) :: m) = ([], false) := by
  show (if (3 : Int) = 1 ∧ lgS s = true then (s, true) else ([], false)) = ([], false)
  rw [if_neg (by intro h; exact absurd h.1 (by decide))]
theorem kW3 {s u : List UInt8} {m : List Wd} : kW ((3, s) :: m) u = decide (s = u) := by unfold kW; simp
/-- what the parser does where these words stand -/
def Pa2 (t : Tr) (w : List Wd) : Prop := ∀ (l : List Token) (i n : Nat) (R : List Wd), At l i (w ++ R) → 3 * w.length + 1 ≤ n → atomS l n i = (t, i + w.length, 0)
def Pa1 (t : Tr) (w : List Wd) : Prop := ∀ (l : List Token) (i n : Nat) (R : List Wd), At l i (w ++ R) → kW R [42] = false → 3 * w.length + 2 ≤ n → prodS l n i = (t, i + w.length, 0)
def Pa0 (t : Tr) (w : List Wd) : Prop := ∀ (l : List Token) (i n : Nat) (R : List Wd), At l i (w ++ R) → kW R [42] = false → kW R [45, 62] = false → 3 * w.length + 3 ≤ n → typS l n i = (t, i + w.length, 0)
theorem Pa2.to1 {t : Tr} {w : List Wd} (h : Pa2 t w) : Pa1 t w := fun l i n R ha hk hn => by
  obtain ⟨n, rfl⟩ : ∃ q, n = q + 1 := ⟨n - 1, by omega⟩
  rw [prodS, h l i n R ha (by omega)]
  simp only [if_true]
  rw [ha.app.key, hk, if_neg (by simp)]
theorem Pa1.to0 {t : Tr} {w : List Wd} (h : Pa1 t w) : Pa0 t w := fun l i n R ha hk hk2 hn => by
  obtain ⟨n, rfl⟩ : ∃ q, n = q + 1 := ⟨n - 1, by omega⟩
  rw [typS, h l i n R ha hk (by omega)]
  simp only [if_true]
  rw [ha.app.key, hk2, if_neg (by simp)]
def wp (b : Bool) (w : List Wd) : List Wd := if b = true then (3, [40]) :: w ++ [(3, [41])] else w
theorem wp_t (w : List Wd) : wp true w = (3, [40]) :: (w ++ [(3, [41])]) := rfl
theorem wp_f (w : List Wd) : wp false w = w := rfl
theorem Pa0.paren {t : Tr} {w : List Wd} (h : Pa0 t w) : Pa2 t (wp true w) := fun l i n R ha hn => by
  rw [wp_t] at ha hn ⊢
  simp only [List.length_cons, List.length_append, List.length_nil] at hn ⊢
  obtain ⟨n, rfl⟩ : ∃ q, n = q + 1 := ⟨n - 1, by omega⟩
  rw [List.cons_append, List.append_assoc] at ha
  have h1 := h l (i + 1) n ((3, [41]) :: R) ha.next (by rw [kW3]; rfl) (by rw [kW3]; rfl) (by omega)
  have h2 := (ha.next).app.key [41]
  rw [List.singleton_append, kW3] at h2
  rw [atomS, ha.long, gW3, if_neg (by simp), ha.key, kW3, if_neg (by simp), ha.key, kW3, if_neg (by simp), ha.key, kW3, if_neg (by simp), ha.key, kW3, if_pos (by simp), h1]
  simp only [if_true]
  rw [h2, if_pos (by simp)]
  simp only [Prod.mk.injEq, and_true, true_and]
  omega
theorem pa_pair {a b : Tr} {wa wb : List Wd} (ha : Pa2 a wa) (hb : Pa1 b wb) : Pa1 (.node 6 0 [] [] [a, b]) (wa ++ (3, [42]) :: wb) := fun l i n R hat hk hn => by
  simp only [List.length_cons, List.length_append] at hn ⊢
  obtain ⟨n, rfl⟩ : ∃ q, n = q + 1 := ⟨n - 1, by omega⟩
  rw [List.append_assoc, List.cons_append] at hat
  rw [prodS, ha l i n _ hat (by omega)]
  simp only [if_true]
  rw [hat.app.key, kW3, if_pos (by simp), hb l _ n R hat.app.next hk (by omega)]
  simp only [if_true, Prod.mk.injEq, and_true, true_and]
  omega
theorem pa_arrow {a b : Tr} {wa wb : List Wd} (ha : Pa1 a wa) (hb : Pa0 b wb) : Pa0 (.node 5 0 [] [] [a, b]) (wa ++ (3, [45, 62]) :: wb) := fun l i n R hat hk hk2 hn => by
  simp only [List.length_cons, List.length_append] at hn ⊢
  obtain ⟨n, rfl⟩ : ∃ q, n = q + 1 := ⟨n - 1, by omega⟩
  rw [List.append_assoc, List.cons_append] at hat
  rw [typS, ha l i n _ hat (by rw [kW3]; rfl) (by omega)]
  simp only [if_true]
  rw [hat.app.key, kW3, if_pos (by simp), hb l _ n R hat.app.next hk hk2 (by omega)]
  simp only [if_true, Prod.mk.injEq, and_true, true_and]
  omega
theorem pa_int : Pa2 (.node 1 0 [] [] []) [(3, [105, 110, 116])] := fun l i n R ha hn => by
  obtain ⟨n, rfl⟩ : ∃ q, n = q + 1 := ⟨n - 1, by omega⟩
  rw [List.singleton_append] at ha
  rw [atomS, ha.long, gW3, if_neg (by simp), ha.key, kW3, if_pos (by simp)]
  rfl
theorem pa_bool : Pa2 (.node 2 0 [] [] []) [(3, [98, 111, 111, 108])] := fun l i n R ha hn => by
  obtain ⟨n, rfl⟩ : ∃ q, n = q + 1 := ⟨n - 1, by omega⟩
  rw [List.singleton_append] at ha
  rw [atomS, ha.long, gW3, if_neg (by simp), ha.key, kW3, if_neg (by simp), ha.key, kW3, if_pos (by simp)]
  rfl
theorem pa_unit : Pa2 (.node 3 0 [] [] []) [(3, [117, 110, 105, 116])] := fun l i n R ha hn => by
  obtain ⟨n, rfl⟩ : ∃ q, n = q + 1 := ⟨n - 1, by omega⟩
  rw [List.singleton_append] at ha
  rw [atomS, ha.long, gW3, if_neg (by simp), ha.key, kW3, if_neg (by simp), ha.key, kW3, if_neg (by simp), ha.key, kW3, if_pos (by simp)]
  rfl
theorem pa_name {s : List UInt8} (h : lgS s = true) : Pa2 (.node 4 0 s [] []) [(1, s)] := fun l i n R ha hn => by
  obtain ⟨n, rfl⟩ : ∃ q, n = q + 1 := ⟨n - 1, by omega⟩
  rw [List.singleton_append] at ha
  have hg : gW ((1, s) :: R) = (s, true) := if_pos ⟨rfl, h⟩
  rw [atomS, ha.long, hg, if_pos rfl]
  rfl
/-- constructors as words: each with its type's words -/
inductive ConsW : List Tr → List Wd → Prop
  | one {s y w} (hs : ckS s = true) (hy : Pa0 y w) : ConsW [.node 8 0 s [] [y]] ((1, s) :: (3, [111, 102]) :: w)
  | more {s y w c v} (hs : ckS s = true) (hy : Pa0 y w) (hc : ConsW c v) : ConsW (.node 8 0 s [] [y] :: c) ((1, s) :: (3, [111, 102]) :: (w ++ (3, [124]) :: v))
theorem pa_cons {c : List Tr} {w : List Wd} (h : ConsW c w) : ∀ (l : List Token) (i n : Nat) (R : List Wd) (out : List Tr), At l i (w ++ R) → kW R [42] = false → kW R [45, 62] = false → kW R [124] = false → (∀ k ∈ c, nameOf k ∉ out.map nameOf) → (c.map nameOf).Nodup →
    3 * w.length + 1 ≤ n → consS l n i out = (out ++ c, i + w.length, 0) := by
  induction h with
  | @one s y w hs hy =>
    intro l i n R out ha k1 k2 k3 hd hnd hn
    simp only [List.length_cons] at hn ⊢
    obtain ⟨n, rfl⟩ : ∃ q, n = q + 1 := ⟨n - 1, by omega⟩
    simp only [List.cons_append] at ha
    have hg : nW ((1, s) :: (3, [111, 102]) :: (w ++ R)) = (s, true) := if_pos ⟨rfl, hs⟩
    have hx : s ∉ out.map nameOf := hd _ List.mem_cons_self
    rw [consS, ha.name, hg, if_pos rfl, if_neg hx, ha.next.key, kW3, if_pos (by simp), hy l (i + 2) n R ha.next.next k1 k2 (by omega)]
    simp only [if_true]
    have := ha.next.next.app.key [124]
    rw [k3] at this
    rw [this, if_neg (by simp)]
    simp only [Prod.mk.injEq, and_true, true_and]
    omega
  | @more s y w c v hs hy hc ih =>
    intro l i n R out ha k1 k2 k3 hd hnd hn
    simp only [List.length_cons, List.length_append] at hn ⊢
    obtain ⟨n, rfl⟩ : ∃ q, n = q + 1 := ⟨n - 1, by omega⟩
    simp only [List.cons_append, List.append_assoc] at ha
    have hg : nW ((1, s) :: (3, [111, 102]) :: (w ++ (3, [124]) :: (v ++ R))) = (s, true) := if_pos ⟨rfl, hs⟩
    have hx : s ∉ out.map nameOf := hd _ List.mem_cons_self
    rw [List.map_cons, List.nodup_cons] at hnd
    rw [consS, ha.name, hg, if_pos rfl, if_neg hx, ha.next.key, kW3, if_pos (by simp), hy l (i + 2) n _ ha.next.next (by rw [kW3]; rfl) (by rw [kW3]; rfl) (by omega)]
    simp only [if_true]
    have := ha.next.next.app.key [124]
    rw [kW3] at this
    rw [this, if_pos (by simp), ih l _ n R _ ha.next.next.app.next k1 k2 k3 (fun k hk => by
      rw [List.map_append, List.mem_append, not_or]
      refine ⟨hd k (List.mem_cons_of_mem _ hk), fun h => hnd.1 ?_⟩
      rw [List.map_cons, List.map_nil, List.mem_singleton] at h
      exact h ▸ List.mem_map_of_mem hk) hnd.2 (by omega)]
    simp only [List.append_assoc, List.singleton_append, Prod.mk.injEq, and_true, true_and]
    omega
theorem pa_mu {s : List UInt8} {c : List Tr} {w : List Wd} (hs : ckS s = true) (h : ConsW c w) (hnd : (c.map nameOf).Nodup) : Pa2 (.node 7 0 s [] c) ((3, [109, 117]) :: (1, s) :: (3, [123]) :: (w ++ [(3, [125])])) := fun l i n R ha hn => by
  simp only [List.length_cons, List.length_append, List.length_nil] at hn ⊢
  obtain ⟨n, rfl⟩ : ∃ q, n = q + 1 := ⟨n - 1, by omega⟩
  simp only [List.cons_append, List.append_assoc, List.nil_append] at ha
  have hg : nW ((1, s) :: (3, [123]) :: (w ++ (3, [125]) :: R)) = (s, true) := if_pos ⟨rfl, hs⟩
  have h1 := pa_cons h l (i + 3) n ((3, [125]) :: R) [] ha.next.next.next (by rw [kW3]; rfl) (by rw [kW3]; rfl) (by rw [kW3]; rfl) (fun _ _ => by simp) hnd (by omega)
  have h2 := ha.next.next.next.app.key [125]
  rw [kW3] at h2
  rw [atomS, ha.long, gW3, if_neg (by simp), ha.key, kW3, if_neg (by simp), ha.key, kW3, if_neg (by simp), ha.key, kW3, if_neg (by simp), ha.key, kW3, if_neg (by simp), ha.key, kW3, if_pos (by simp), ha.next.name, hg, if_pos rfl, ha.next.next.key, kW3, if_pos (by simp), h1]
  simp only [if_true]
  rw [h2, if_pos (by simp)]
  simp only [List.nil_append, Prod.mk.injEq, and_true, true_and]
  omega
end Go.Proofs.YtpplkbcfidpbcaaGreatDoor

/- Texts whose runes may all be read, and those of names: what stands behind changes nothing. -/
namespace Go.Proofs.YtpplkbcfidpbcaaGreatDoor
open Go Go.Am Go.Sx
theorem bang_app {p q : List UInt8} {j : Nat} (h : j < p.length) : (p ++ q)[j]! = p[j]! := by
  rw [getElem!_pos _ j (by simp; omega), getElem!_pos _ j h, List.getElem_append_left h]
theorem dc_app {p : List UInt8} (q : List UInt8) (hp : p ≠ []) (hr : (dc p).1 ≠ 65533) : dc (p ++ q) = dc p := by
  have h1 : 1 ≤ p.length := by cases p with | nil => exact absurd rfl hp | cons => simp
  have e0 : (p ++ q)[0]! = p[0]! := bang_app h1
  have e1 : 1 < p.length → (p ++ q)[1]! = p[1]! := bang_app
  have e2 : 2 < p.length → (p ++ q)[2]! = p[2]! := bang_app
  have e3 : 3 < p.length → (p ++ q)[3]! = p[3]! := bang_app
  have hl : (p ++ q).length = p.length + q.length := List.length_append
  unfold dc Lib.decodeN at hr ⊢
  rw [e0, hl]
  generalize p[0]!.toNat = b0 at *
  by_cases c0 : b0 < 128
  · rw [if_pos c0, if_pos c0]
  rw [if_neg c0] at hr
  rw [if_neg c0, if_neg c0]
  by_cases c1 : b0 / 32 = 6 ∧ (1 < p.length ∧ p[1]!.toNat / 64 = 2)
  · rw [e1 c1.2.1, if_pos c1, if_pos ⟨c1.1, by omega, c1.2.2⟩]
  rw [if_neg c1] at hr
  rw [if_neg c1]
  by_cases c2 : b0 / 16 = 14 ∧ (1 < p.length ∧ p[1]!.toNat / 64 = 2) ∧ (2 < p.length ∧ p[2]!.toNat / 64 = 2)
  · rw [e1 c2.2.1.1, e2 c2.2.2.1, if_pos c2, if_neg (by omega), if_pos ⟨c2.1, ⟨by omega, c2.2.1.2⟩, by omega, c2.2.2.2⟩]
  rw [if_neg c2] at hr
  rw [if_neg c2]
  by_cases c3 : b0 / 8 = 30 ∧ (1 < p.length ∧ p[1]!.toNat / 64 = 2) ∧ (2 < p.length ∧ p[2]!.toNat / 64 = 2) ∧ (3 < p.length ∧ p[3]!.toNat / 64 = 2)
  · rw [e1 c3.2.1.1, e2 c3.2.2.1.1, e3 c3.2.2.2.1, if_pos c3, if_neg (by omega), if_neg (by omega), if_pos ⟨c3.1, ⟨by omega, c3.2.1.2⟩, ⟨by omega, c3.2.2.1.2⟩, by omega, c3.2.2.2.2⟩]
  rw [if_neg c3] at hr
  exact absurd rfl hr
theorem dc_byte {b : UInt8} {t : List UInt8} (h : b.toNat < 128) : dc (b :: t) = (b.toNat, 1) := dc_ascii (l := b :: t) h
/-- may a rune lie within a name? -/
def inn (r : Int) : Bool := decide (cls r = 1) || (decide (cls r = 2) || decide (r = 39))
/-- may a rune be read? -/
def okr (r : Nat) : Prop := r ≠ 65533 ∧ ((r : Int) < 32 → cls r = 3) ∧ r ≠ 127
theorem inn_low {r : Nat} (h : inn (r : Int) = true) : 39 ≤ r ∧ r ≠ 65533 ∧ r ≠ 127 := by
  unfold inn at h
  simp only [Bool.or_eq_true, decide_eq_true_eq] at h
  unfold cls at h
  rcases h with h | h | h
  · repeat' split at h
    all_goals omega
  · repeat' split at h
    all_goals omega
  · omega
theorem inn_ok {r : Nat} (h : inn (r : Int) = true) : okr r := by
  have := inn_low h
  exact ⟨this.2.1, fun h => by omega, this.2.2⟩
inductive Rk : List UInt8 → Prop
  | nil : Rk []
  | cons {p} (h : p ≠ []) (hr : okr (dc p).1) (t : Rk (p.drop (dc p).2)) : Rk p
inductive Inn : List UInt8 → Prop
  | nil : Inn []
  | cons {p} (h : p ≠ []) (hr : inn (((dc p).1 : Nat) : Int) = true) (t : Inn (p.drop (dc p).2)) : Inn p
theorem Inn.rk {p : List UInt8} (h : Inn p) : Rk p := by
  induction h with
  | nil => exact .nil
  | cons h hr _ ih => exact .cons h (inn_ok hr) ih
theorem drop_app {p q : List UInt8} {n : Nat} (h : n ≤ p.length) : (p ++ q).drop n = p.drop n ++ q := by
  rw [List.drop_append, show n - p.length = 0 by omega, List.drop_zero]
theorem rk_app {a b : List UInt8} (ha : Rk a) (hb : Rk b) : Rk (a ++ b) := by
  induction ha with
  | nil => exact hb
  | @cons p h hr _ ih =>
    have e := dc_app b h hr.1
    refine .cons (by simp [h]) (by rw [e]; exact hr) ?_
    rw [e, drop_app (dc_le h)]; exact ih
theorem rk_ascii : ∀ {p : List UInt8}, (∀ b ∈ p, 32 ≤ b.toNat ∧ b.toNat < 127) → Rk p
  | [], _ => .nil
  | b :: t, h => by
    have hb := h b List.mem_cons_self
    have e : dc (b :: t) = (b.toNat, 1) := dc_byte (by omega)
    refine .cons (by simp) ?_ ?_
    · rw [e]; exact ⟨by simp only; omega, fun h => by simp only at h; omega, by simp only; omega⟩
    · rw [e]; exact rk_ascii fun b hb => h b (List.mem_cons_of_mem _ hb)
theorem inn_ascii : ∀ {p : List UInt8}, (∀ b ∈ p, 97 ≤ b.toNat ∧ b.toNat < 123) → Inn p
  | [], _ => .nil
  | b :: t, h => by
    have hb := h b List.mem_cons_self
    have e : dc (b :: t) = (b.toNat, 1) := dc_byte (by omega)
    have hc : cls ((b.toNat : Nat) : Int) = 1 := by unfold cls; rw [if_pos (by omega)]
    refine .cons (by simp) ?_ ?_
    · rw [e]; unfold inn; rw [hc]; rfl
    · rw [e]; exact inn_ascii fun b hb => h b (List.mem_cons_of_mem _ hb)
theorem inn_name : ∀ (n : Nat) (p : List UInt8), p.length ≤ n → ∀ f, nmOk f (rs p) = true → Inn p := by
  intro n
  induction n with
  | zero =>
    intro p h f _
    obtain rfl := List.length_eq_zero_iff.1 (Nat.le_zero.1 h)
    exact .nil
  | succ n ih =>
    intro p h f ho
    by_cases hp : p = []
    · subst hp; exact .nil
    · rw [rs_step hp, nmOk_cons] at ho
      simp only [Bool.and_eq_true, Bool.or_eq_true] at ho
      have hw := dc_width p
      refine .cons hp ?_ (ih _ (by rw [List.length_drop]; omega) false ho.2)
      unfold inn
      simp only [Bool.or_eq_true]
      rcases ho.1 with h1 | h1
      · exact .inl h1
      · exact .inr h1.2
theorem first_name {p : List UInt8} (hp : p ≠ []) (ho : nmOk true (rs p) = true) : cls (((dc p).1 : Nat) : Int) = 1 := by
  rw [rs_step hp, nmOk_cons] at ho
  simp only [Bool.not_true, Bool.false_and, Bool.or_false, Bool.and_eq_true, decide_eq_true_eq] at ho
  exact ho.1
theorem ck_parts {s : List UInt8} (h : ckS s = true) : s ≠ [] ∧ nmS s = true ∧ s ∉ wrds ∧ Inn s ∧ cls (((dc s).1 : Nat) : Int) = 1 := by
  unfold ckS at h
  simp only [Bool.and_eq_true, Bool.not_eq_true', decide_eq_false_iff_not] at h
  have h1 := h.1
  unfold nmS at h1
  simp only [Bool.and_eq_true, decide_eq_true_eq] at h1
  exact ⟨h1.1, h.1, h.2, inn_name _ s (Nat.le_refl _) true h1.2.2.2, first_name h1.1 h1.2.2.2⟩
/-- parts of a long name behind the first one -/
def lj : List (List UInt8) → List UInt8
  | [] => []
  | p :: r => 46 :: (p ++ lj r)
theorem pcs_lj : ∀ s : List UInt8, (pcs s).headD [] ++ lj (pcs s).tail = s
  | [] => rfl
  | b :: t => by
    have ih := pcs_lj t
    unfold pcs
    by_cases h : b = 46
    · rw [if_pos h]
      show [] ++ lj (pcs t) = _
      rw [pcs_ht t, h, List.nil_append]
      show 46 :: ((pcs t).headD [] ++ lj (pcs t).tail) = _
      rw [ih]
    · rw [if_neg h]
      show b :: ((pcs t).headD [] ++ lj (pcs t).tail) = _
      rw [ih]
theorem rk_lj : ∀ {r : List (List UInt8)}, (∀ p ∈ r, ckS p = true) → Rk (lj r)
  | [], _ => .nil
  | p :: r, h => by
    show Rk ([46] ++ (p ++ lj r))
    exact rk_app (rk_ascii (by decide)) (rk_app (ck_parts (h p List.mem_cons_self)).2.2.2.1.rk (rk_lj fun q hq => h q (List.mem_cons_of_mem _ hq)))
/-- a long name's parts -/
theorem lg_parts {s : List UInt8} (h : lgS s = true) : ∃ p r, s = p ++ lj r ∧ ckS p = true ∧ (∀ q ∈ r, ckS q = true) ∧ s.length ≤ 128 := by
  unfold lgS at h
  simp only [Bool.and_eq_true, decide_eq_true_eq, List.all_eq_true] at h
  have h2 := h.2
  rw [pcs_ht s] at h2
  exact ⟨_, _, (pcs_lj s).symm, h2 _ List.mem_cons_self, fun q hq => h2 q (List.mem_cons_of_mem _ hq), h.1⟩
theorem ck_one {s : List UInt8} (h : ckS s = true) : ∃ p r, s = p ++ lj r ∧ ckS p = true ∧ (∀ q ∈ r, ckS q = true) ∧ s.length ≤ 128 := by
  refine ⟨s, [], by simp [lj], h, fun q hq => by simp at hq, ?_⟩
  unfold ckS nmS at h
  simp only [Bool.and_eq_true, decide_eq_true_eq] at h
  omega
/-- words of the text, with a blank ahead of each -/
def jt : List Wd → List UInt8
  | [] => []
  | x :: r => 32 :: (x.2 ++ jt r)
/-- words of the text, with a blank between -/
def jn : List Wd → List UInt8
  | [] => []
  | x :: r => x.2 ++ jt r
theorem jt_app : ∀ a b : List Wd, jt (a ++ b) = jt a ++ jt b
  | [], b => rfl
  | x :: r, b => by
    show 32 :: (x.2 ++ jt (r ++ b)) = 32 :: (x.2 ++ jt r) ++ jt b
    rw [jt_app r b]; simp
theorem jn_app {a : List Wd} (h : a ≠ []) (b : List Wd) : jn (a ++ b) = jn a ++ jt b := by
  cases a with
  | nil => exact absurd rfl h
  | cons x r =>
    show x.2 ++ jt (r ++ b) = x.2 ++ jt r ++ jt b
    rw [jt_app]; simp
theorem jt_jn {a : List Wd} (h : a ≠ []) : jt a = 32 :: jn a := by
  cases a with
  | nil => exact absurd rfl h
  | cons x r => rfl
end Go.Proofs.YtpplkbcfidpbcaaGreatDoor

/- The lexer on words with blanks between. -/
namespace Go.Proofs.YtpplkbcfidpbcaaGreatDoor
open Go Go.Am Go.Sx
theorem ev_inner (r : Int) : Ev (fun K => lexer_inner K r) (inn r) := by
  refine Ev.congr (f := fun K => _) ?_ (fun K => by rw [lexer_inner])
  refine Ev.bind (ev_class1 r) ?_
  unfold inn
  refine Ev.d (fun h => Ev.pure' ?_) (fun h => Ev.d (fun h2 => Ev.pure' ?_) (fun h2 => Ev.pure' ?_))
  · rw [decide_eq_true h]; rfl
  · rw [decide_eq_true h2]; simp
  · rw [decide_eq_false h, decide_eq_false h2]; rfl
/-- here a name ends -/
def Stop (t : List UInt8) : Prop := t = [] ∨ ∃ b r, t = b :: r ∧ b.toNat < 128 ∧ inn ((b.toNat : Nat) : Int) = false
theorem stop_46 (r : List UInt8) : Stop (46 :: r) := .inr ⟨46, r, rfl, by decide, by decide⟩
theorem stop_32 (r : List UInt8) : Stop (32 :: r) := .inr ⟨32, r, rfl, by decide, by decide⟩
theorem ev_span2_loop (s : List UInt8) : ∀ (m : Nat) (p : List UInt8), p.length ≤ m → Inn p → ∀ (i : Nat) (tail : List UInt8), s.drop i = p ++ tail → Stop tail → i ≤ s.length → Ev (fun K => lexer_span_2_l0 K s s (i : Int)) ((i + p.length : Nat) : Int) := by
  have fin : ∀ (i : Nat) (tail : List UInt8), s.drop i = tail → Stop tail → i ≤ s.length → Ev (fun K => lexer_span_2_l0 K s s (i : Int)) ((i : Nat) : Int) := fun i tail hd hst hi => by
    refine Ev.step (fun k => by rw [lexer_span_2_l0]) ?_
    simp only [Int.toNat_natCast, runeAt_dc]
    rcases hst with e | ⟨b, r, e, hb, hn⟩
    · rw [e] at hd
      have := congrArg List.length hd
      rw [List.length_drop, List.length_nil] at this
      exact Ev.dF (by omega) (Ev.pure' (by omega))
    · rw [e] at hd
      have := congrArg List.length hd
      rw [List.length_drop, List.length_cons] at this
      refine Ev.dT (by omega) ?_
      rw [hd, dc_byte hb]
      refine Ev.bind (ev_inner _) ?_
      rw [hn]
      exact Ev.isT rfl Ev.pure
  intro m
  induction m with
  | zero =>
    intro p hp _ i tail hd hst hi
    obtain rfl := List.length_eq_zero_iff.1 (Nat.le_zero.1 hp)
    exact fin i tail hd hst hi
  | succ m ih =>
    intro p hp hin i tail hd hst hi
    cases hin with
    | nil => exact fin i tail hd hst hi
    | cons hne hr ht =>
      have hw := dc_width p
      have hle := dc_le hne
      have h65 := (inn_low hr).2.1
      have e := dc_app tail hne h65
      have := congrArg List.length hd
      rw [List.length_drop, List.length_append] at this
      refine Ev.step (fun k => by rw [lexer_span_2_l0]) ?_
      simp only [Int.toNat_natCast, runeAt_dc]
      refine Ev.dT (by omega) ?_
      rw [hd, e]
      refine Ev.bind (ev_inner _) ?_
      rw [hr]
      refine Ev.isF rfl ?_
      have nxt := ih (p.drop (dc p).2) (by rw [List.length_drop]; omega) ht (i + (dc p).2) tail (by rw [← List.drop_drop, hd, drop_app hle]) hst (by omega)
      rw [List.length_drop] at nxt
      rw [show i + p.length = i + (dc p).2 + (p.length - (dc p).2) by omega]
      exact nxt
theorem ev_span2 {p tail : List UInt8} (hp : Inn p) (ht : Stop tail) : Ev (fun K => lexer_span_2 K (p ++ tail)) ((p.length : Nat) : Int) := by
  refine Ev.congr (f := fun K => _) ?_ (fun K => by rw [lexer_span_2])
  have := ev_span2_loop (p ++ tail) p.length p (Nat.le_refl _) hp 0 tail rfl ht (by omega)
  simpa using this
theorem ev_blank (r : Int) : Ev (fun K => lexer_Lex_1 K r) (decide (cls r = 3)) := by
  refine Ev.congr (f := fun K => _) ?_ (fun K => by rw [lexer_Lex_1])
  exact Ev.bind (ev_class1 r) Ev.pure
theorem span_at {s : List UInt8} {i : Nat} (hi : i < s.length) (hc : cls (((dc (s.drop i)).1 : Nat) : Int) ≠ 3) : Ev (fun K => lexer_span_l0 K s s (i : Int)) (i : Int) := by
  refine Ev.step (fun k => by rw [lexer_span_l0]) ?_
  simp only [Int.toNat_natCast, runeAt_dc]
  refine Ev.dT hi ?_
  refine Ev.bind (ev_blank _) ?_
  rw [decide_eq_false hc]
  exact Ev.isT rfl Ev.pure
theorem ev_span0 {s : List UInt8} (hs : s ≠ []) (hc : cls (((dc s).1 : Nat) : Int) ≠ 3) : Ev (fun K => lexer_span K s) 0 := by
  refine Ev.congr (f := fun K => _) ?_ (fun K => by rw [lexer_span])
  exact span_at (s := s) (i := 0) (by cases s with | nil => exact absurd rfl hs | cons => simp) hc
theorem ev_span1 {s : List UInt8} (hs : s ≠ []) (hc : cls (((dc s).1 : Nat) : Int) ≠ 3) : Ev (fun K => lexer_span K (32 :: s)) 1 := by
  refine Ev.congr (f := fun K => _) ?_ (fun K => by rw [lexer_span])
  refine Ev.step (fun k => by rw [lexer_span_l0]) ?_
  have e : dc (32 :: s) = (32, 1) := dc_byte (by decide)
  rw [show (0 : Int).toNat = 0 from rfl, runeAt_dc, List.drop_zero, e]
  refine Ev.dT (by simp) ?_
  refine Ev.bind (ev_blank _) ?_
  refine Ev.isF (by decide) ?_
  exact span_at (s := 32 :: s) (i := 1) (by cases s with | nil => exact absurd rfl hs | cons => simp) hc
theorem ev_prefix (s x : List UInt8) : Ev (fun K => strings_HasPrefix K s x) (x.isPrefixOf s) := by
  refine Ev.congr (f := fun K => _) ?_ (fun K => by rw [strings_HasPrefix])
  refine Ev.ret ?_
  refine Ev.congr (f := fun K => _) ?_ (fun K => by rw [stringslite_HasPrefix])
  have hb : x.isPrefixOf s = true ↔ x = s.take x.length := by rw [List.isPrefixOf_iff_prefix, List.prefix_iff_eq_take]
  refine Ev.d (fun h => ?_) (fun h => Ev.pure' ?_)
  · refine Ev.opt (a := s.take x.length) ?_ (Ev.pure' ?_)
    · have := subL_ok (l := s) (a := 0) (b := x.length) (by omega) (by omega)
      simpa using this
    · by_cases e : s.take x.length = x
      · rw [decide_eq_true e, hb.2 e.symm]
      · rw [decide_eq_false e]
        cases hx : x.isPrefixOf s with
        | false => rfl
        | true => exact absurd (hb.1 hx).symm e
  · cases hx : x.isPrefixOf s with
    | false => rfl
    | true =>
      have := congrArg List.length (hb.1 hx)
      rw [List.length_take] at this
      omega
theorem ev_first {s : List UInt8} (hs : s ≠ []) : Ev (fun K => lexer_first K s) (((dc s).1 : Nat) : Int) := by
  refine Ev.congr (f := fun K => _) ?_ (fun K => by rw [lexer_first])
  refine Ev.step (fun k => by rw [lexer_first_l0]) ?_
  rw [show (0 : Int).toNat = 0 from rfl, runeAt_dc, List.drop_zero]
  exact Ev.dT (by cases s with | nil => exact absurd rfl hs | cons => simp) Ev.pure
abbrev TokR := Int × List UInt8 × Int × Int × Int × Bool
def fnd (l : List (List UInt8)) (s : List UInt8) : TokR := match l.find? (fun x => x.isPrefixOf s) with
  | some x => (3, x, 0, 0, ((x.length : Nat) : Int), true)
  | none => (0, [], 0, 0, 0, false)
theorem ev_signs_loop (s : List UInt8) (l : List (List UInt8)) (hl : l.length ≤ 1000) : ∀ (m i : Nat), l.length = i + m → Ev (fun K => lexer_token_l0 K s l (i : Int)) (fnd (l.drop i) s) := by
  intro m
  induction m with
  | zero =>
    intro i hi
    refine Ev.step (fun k => by rw [lexer_token_l0]) (Ev.dF (by omega) (Ev.pure' ?_))
    rw [List.drop_of_length_le (by omega)]; rfl
  | succ m ih =>
    intro i hi
    have hlt : i < l.length := by omega
    refine Ev.step (fun k => by rw [lexer_token_l0]) ?_
    refine Ev.dT (by omega) (Ev.opt (getI_lt hlt) (Ev.bind (ev_prefix s _) ?_))
    rw [drop_get hlt]
    unfold fnd
    rw [List.find?_cons]
    cases hx : l[i].isPrefixOf s with
    | true => exact Ev.isT rfl Ev.pure
    | false =>
      refine Ev.isF rfl ?_
      rw [wrap_nat (by omega)]
      exact ih (i + 1) (by omega)
def sgns : List (List UInt8) := (lexer_signs 0).getD []
theorem signs_eq (k : Nat) : lexer_signs k = some sgns := rfl
/-- the end, or a blank -/
def Bl (t : List UInt8) : Prop := t = [] ∨ ∃ r, t = 32 :: r
theorem Bl.stop {t : List UInt8} (h : Bl t) : Stop t := by
  rcases h with h | ⟨r, rfl⟩
  · exact .inl h
  · exact stop_32 r
theorem bl_jt (w : List Wd) : Bl (jt w) := by
  cases w with
  | nil => exact .inl rfl
  | cons x r => exact .inr ⟨_, rfl⟩
/-- the number that digits are, and the number of a word -/
def fv (v : Int) (s : List UInt8) : Int := s.foldl (fun v b => 10 * v + ((b.toNat : Int) - 48)) v
def nOf (x : Wd) : Int := if x.1 = 2 then (if x.2.headD 0 = 126 then -(fv 0 (x.2.drop 1)) else fv 0 x.2) else 0
/-- a word that the lexer tells as it is -/
def Tk (x : Wd) : Prop := x.2 ≠ [] ∧ Rk x.2 ∧ x.2.length ≤ 1000 ∧ ∀ tail, tail.length ≤ 1000000 → Bl tail → cls (((dc (x.2 ++ tail)).1 : Nat) : Int) ≠ 3 ∧ List.isPrefixOf [40, 42] (x.2 ++ tail) = false ∧ Ev (fun K => lexer_token K (x.2 ++ tail)) (x.1, x.2, nOf x, 0, ((x.2.length : Nat) : Int), true)
theorem tk_sign {b : UInt8} {w : List UInt8} (hb : b.toNat < 127 ∧ 33 ≤ b.toNat ∧ b.toNat ≠ 126 ∧ cls ((b.toNat : Nat) : Int) = 0) (hw : ∀ c ∈ w, 32 ≤ c.toNat ∧ c.toNat < 127) (hl : w.length ≤ 10)
    (hf : ∀ tail, Bl tail → fnd sgns (b :: w ++ tail) = (3, b :: w, 0, 0, (((b :: w).length : Nat) : Int), true) ∧ List.isPrefixOf [40, 42] (b :: w ++ tail) = false) : Tk (3, b :: w) := by
  refine ⟨by simp, rk_ascii ?_, by simp; omega, fun tail _ ht => ?_⟩
  · intro c hc
    rcases List.mem_cons.1 hc with rfl | hc
    · omega
    · exact hw c hc
  · have e : dc (b :: w ++ tail) = (b.toNat, 1) := dc_byte (by omega)
    obtain ⟨h1, h2⟩ := hf tail ht
    refine ⟨by rw [e]; simp only [hb.2.2.2]; decide, h2, ?_⟩
    refine Ev.congr (f := fun K => _) ?_ (fun K => by rw [lexer_token])
    refine Ev.bind (ev_first (by simp)) ?_
    rw [e]
    refine Ev.bind (ev_class1 _) ?_
    rw [hb.2.2.2]
    refine Ev.dF (by decide) ?_
    refine Ev.dF (by decide) ?_
    refine Ev.opt (a := b) rfl ?_
    refine Ev.dF (by omega) ?_
    refine Ev.opt (signs_eq 0) ?_
    have := ev_signs_loop (b :: w ++ tail) sgns (by decide) sgns.length 0 (by omega)
    rw [List.drop_zero, h1] at this
    exact this
theorem sub0 {l : List UInt8} {a b : List UInt8} (h : l = a ++ b) : subL l 0 ((a.length : Nat) : Int) = some a := by
  subst h
  have := subL_ok (l := a ++ b) (a := 0) (b := a.length) (by omega) (by simp)
  simpa using this
theorem tk_key {w : List UInt8} (hw : w ∈ wrds) (hn : w ≠ []) (ha : ∀ b ∈ w, 97 ≤ b.toNat ∧ b.toNat < 123) (hl : w.length ≤ 100) : Tk (3, w) := by
  have hin := inn_ascii ha
  refine ⟨hn, hin.rk, by simp only; omega, fun tail htl ht => ?_⟩
  obtain ⟨b, w', rfl⟩ : ∃ b w', w = b :: w' := by cases w with | nil => exact absurd rfl hn | cons b w' => exact ⟨b, w', rfl⟩
  have hb := ha b List.mem_cons_self
  have e : dc (b :: w' ++ tail) = (b.toNat, 1) := dc_byte (by omega)
  have hc : cls ((b.toNat : Nat) : Int) = 1 := by unfold cls; rw [if_pos (by omega)]
  refine ⟨by rw [e]; simp only [hc]; decide, ?_, ?_⟩
  · show (40 == b && _) = false
    rw [show ((40 : UInt8) == b) = false from by
      rw [beq_eq_false_iff_ne]; intro h; rw [← h] at hb; exact absurd hb.1 (by decide)]; rfl
  · refine Ev.congr (f := fun K => _) ?_ (fun K => by rw [lexer_token])
    refine Ev.bind (ev_first (by simp)) ?_
    rw [e]
    refine Ev.bind (ev_class1 _) ?_
    rw [hc]
    refine Ev.dT rfl ?_
    refine Ev.bind (a := ((3 : Int), b :: w', (0 : Int), (0 : Int), (((b :: w').length : Nat) : Int), true)) ?_ Ev.pure
    refine Ev.congr (f := fun K => _) ?_ (fun K => by rw [lexer_long])
    refine Ev.bind (ev_span2 hin ht.stop) ?_
    have hs := sub0 (l := b :: w' ++ tail) (a := b :: w') (b := tail) rfl
    refine Ev.opt hs ?_
    refine Ev.bind (ev_word1 _) ?_
    refine Ev.dT hw ?_
    refine Ev.d (fun _ => Ev.opt hs Ev.pure) (fun h => ?_)
    rcases ht with rfl | ⟨r, rfl⟩
    · exact absurd (by simp) h
    · refine Ev.opt (a := 32) ?_ ?_
      · rw [getI_lt (by simp), List.getElem_append_right (Nat.le_refl _)]; simp
      · exact Ev.nT (by decide) (Ev.opt hs Ev.pure)
theorem long_loop (s tail : List UInt8) (ht : Bl tail) (hs : s.length ≤ 2000000) : ∀ (r : List (List UInt8)), (∀ p ∈ r, ckS p = true) → ∀ n : Nat, s.drop n = lj r ++ tail → n ≤ s.length →
    Ev (fun K => lexer_long_l0 K s (n : Int) true) (1, s.take (n + (lj r).length), 0, 0, ((n + (lj r).length : Nat) : Int), decide (((n + (lj r).length : Nat) : Int) ≤ 128)) := by
  intro r
  induction r with
  | nil =>
    intro _ n hd hn
    have hsub : subL s 0 (n : Int) = some (s.take n) := by
      have := subL_ok (l := s) (a := 0) (b := n) (by omega) hn
      simpa using this
    refine Ev.step (fun k => by rw [lexer_long_l0]) ?_
    refine Ev.isT rfl ?_
    show Ev _ (1, s.take n, 0, 0, (n : Int), decide ((n : Int) ≤ 128))
    refine Ev.d (fun h => ?_) (fun h => Ev.opt hsub Ev.pure)
    rcases ht with rfl | ⟨t, rfl⟩
    · have := congrArg List.length hd
      simp [lj] at this
      omega
    · have hlt : n < s.length := by omega
      rw [drop_get hlt] at hd
      have e := (List.cons.inj hd).1
      refine Ev.opt (getI_lt hlt) ?_
      rw [e]
      exact Ev.dF (by decide) (Ev.opt hsub Ev.pure)
  | cons p r ih =>
    intro hck n hd hn
    have hp := ck_parts (hck p List.mem_cons_self)
    have hd' : s.drop n = 46 :: (p ++ (lj r ++ tail)) := by rw [hd]; simp [lj]
    have hll := congrArg List.length hd'
    simp only [List.length_drop, List.length_cons, List.length_append] at hll
    have hlt : n < s.length := by omega
    have hd1 : s.drop (n + 1) = p ++ (lj r ++ tail) := by
      rw [drop_get hlt] at hd'
      exact (List.cons.inj hd').2
    have e : s[n] = 46 := by
      rw [drop_get hlt] at hd'
      exact (List.cons.inj hd').1
    have hsub : subL s ((n + 1 : Nat) : Int) ((s.length : Nat) : Int) = some (p ++ (lj r ++ tail)) := by rw [subD (by omega), hd1]
    have hst : Stop (lj r ++ tail) := by
      cases r with
      | nil => exact ht.stop
      | cons q r => exact stop_46 _
    refine Ev.step (fun k => by rw [lexer_long_l0]) ?_
    refine Ev.isT rfl ?_
    refine Ev.dT (by omega) ?_
    refine Ev.opt (getI_lt hlt) ?_
    rw [e]
    refine Ev.dT (by decide) ?_
    rw [wrap_nat (by omega)]
    refine Ev.opt hsub ?_
    refine Ev.bind (ev_span2 hp.2.2.2.1 hst) ?_
    refine Ev.opt hsub ?_
    refine Ev.opt (sub0 rfl) ?_
    refine Ev.bind (ev_rname p) ?_
    rw [hp.2.1]
    refine Ev.isT rfl ?_
    refine Ev.bind (ev_word1 p) ?_
    rw [decide_eq_false hp.2.2.1]
    rw [wrap_id (x := 1 + ((p.length : Nat) : Int)) (by omega) (by omega), wrap_id (by omega) (by omega)]
    have nxt := ih (fun q hq => hck q (List.mem_cons_of_mem _ hq)) (n + 1 + p.length) (by rw [← List.drop_drop, hd1]; simp) (by omega)
    have hlj : (lj (p :: r)).length = 1 + p.length + (lj r).length := by simp [lj]; omega
    rw [hlj]
    rw [show n + (1 + p.length + (lj r).length) = n + 1 + p.length + (lj r).length by omega, show (n : Int) + (1 + ((p.length : Nat) : Int)) = ((n + 1 + p.length : Nat) : Int) by omega]
    exact nxt
theorem tk_name {s : List UInt8} (h : ∃ p r, s = p ++ lj r ∧ ckS p = true ∧ (∀ q ∈ r, ckS q = true) ∧ s.length ≤ 128) : Tk (1, s) := by
  obtain ⟨p, r, rfl, hp, hr, hl⟩ := h
  have q := ck_parts hp
  refine ⟨by simp [q.1], rk_app q.2.2.2.1.rk (rk_lj hr), by simp only; omega, fun tail htl ht => ?_⟩
  have hc := q.2.2.2.2
  have h65 : (dc p).1 ≠ 65533 := by
    intro e
    rw [e] at hc
    exact absurd hc (by decide)
  have e : dc (p ++ lj r ++ tail) = dc p := by rw [List.append_assoc]; exact dc_app _ q.1 h65
  have hst : Stop (lj r ++ tail) := by
    cases r with
    | nil => exact ht.stop
    | cons q r => exact stop_46 _
  refine ⟨by simp only [e, hc]; decide, ?_, ?_⟩
  · obtain ⟨b, w', rfl⟩ : ∃ b w', p = b :: w' := by cases p with | nil => exact absurd rfl q.1 | cons b w' => exact ⟨b, w', rfl⟩
    show (40 == b && _) = false
    rw [show ((40 : UInt8) == b) = false from by
      rw [beq_eq_false_iff_ne]
      intro h
      subst h
      rw [dc_byte (by decide)] at hc
      exact absurd hc (by decide)]; rfl
  · refine Ev.congr (f := fun K => _) ?_ (fun K => by rw [lexer_token])
    refine Ev.bind (ev_first (by simp [q.1])) ?_
    simp only [e]
    refine Ev.bind (ev_class1 _) ?_
    rw [hc]
    refine Ev.dT rfl ?_
    refine Ev.bind (a := ((1 : Int), p ++ lj r, (0 : Int), (0 : Int), (((p ++ lj r).length : Nat) : Int), true)) ?_ Ev.pure
    refine Ev.congr (f := fun K => _) ?_ (fun K => by rw [lexer_long])
    have hsp := ev_span2 q.2.2.2.1 hst
    rw [← List.append_assoc] at hsp
    refine Ev.bind hsp ?_
    have hs := sub0 (l := p ++ lj r ++ tail) (a := p) (b := lj r ++ tail) (by simp)
    refine Ev.opt hs ?_
    refine Ev.bind (ev_word1 _) ?_
    refine Ev.dF q.2.2.1 ?_
    refine Ev.opt hs ?_
    refine Ev.bind (ev_rname p) ?_
    rw [q.2.1]
    refine Ev.isT rfl ?_
    refine Ev.opt hs ?_
    refine Ev.bind (ev_word1 p) ?_
    rw [decide_eq_false q.2.2.1]
    simp only [List.length_append] at hl
    have := long_loop (p ++ lj r ++ tail) tail ht (by simp; omega) r hr p.length (by simp) (by simp)
    rw [decide_eq_true (by omega), show p.length + (lj r).length = (p ++ lj r).length by simp, List.take_left] at this
    exact this
/-- from a place on, words with a blank ahead of each -/
theorem lex_run (s : List UInt8) (hs : s.length ≤ 1000000) : ∀ (ws : List Wd), (∀ x ∈ ws, Tk x) → ∀ (i : Nat) (acc : List Token), i ≤ s.length → acc.length ≤ i →
    (s.drop i = jt ws → ∃ toks, toks.map kt = ws ∧ (∀ k ∈ toks, k.2.2.1 = nOf (kt k)) ∧ Ev (fun K => lexer_Lex_l0 K s acc (i : Int)) (acc ++ toks, 0, 0)) ∧ (ws ≠ [] → s.drop i = jn ws → ∃ toks, toks.map kt = ws ∧ (∀ k ∈ toks, k.2.2.1 = nOf (kt k)) ∧ Ev (fun K => lexer_Lex_l0 K s acc (i : Int)) (acc ++ toks, 0, 0)) := by
  intro ws
  induction ws with
  | nil =>
    intro _ i acc hi ha
    refine ⟨fun hd => ⟨[], rfl, (fun k hk => by cases hk), ?_⟩, fun h => absurd rfl h⟩
    have := congrArg List.length hd
    rw [List.length_drop] at this
    simp [jt] at this
    refine Ev.step (fun k => by rw [lexer_Lex_l0]) (Ev.dF (by omega) (Ev.pure' (by simp)))
  | cons x r ih =>
    intro hx i acc hi ha
    have word : ∀ (i : Nat), acc.length ≤ i → i ≤ s.length → s.drop i = x.2 ++ jt r → ∃ toks, toks.map kt = x :: r ∧ (∀ k ∈ toks, k.2.2.1 = nOf (kt k)) ∧ Ev (fun K => lexer_Lex_l0 K s acc (i : Int)) (acc ++ toks, 0, 0) := fun i ha hi hd => by
      obtain ⟨hne, _, hxl, htk⟩ := hx x List.mem_cons_self
      have hlen := congrArg List.length hd
      rw [List.length_drop, List.length_append] at hlen
      have hpos : 1 ≤ x.2.length := by cases hq : x.2 with | nil => exact absurd hq hne | cons => simp
      obtain ⟨h1, h2, h3⟩ := htk (jt r) (by omega) (bl_jt r)
      obtain ⟨toks, q1, q0, q2⟩ := (ih (fun y hy => hx y (List.mem_cons_of_mem _ hy)) (i + x.2.length) (acc ++ [(x.1, x.2, nOf x, (i : Int))]) (by omega) (by simp; omega)).1 (by rw [← List.drop_drop, hd]; simp)
      refine ⟨(x.1, x.2, nOf x, (i : Int)) :: toks, by rw [List.map_cons, q1]; rfl, (fun k hk => by
        rcases List.mem_cons.1 hk with rfl | hk
        · rfl
        · exact q0 k hk), ?_⟩
      refine Ev.step (fun k => by rw [lexer_Lex_l0]) ?_
      refine Ev.dT (by omega) ?_
      refine Ev.opt (subD hi) ?_
      rw [hd]
      refine Ev.bind (ev_span0 (by simp [hne]) h1) ?_
      refine Ev.dF (by decide) ?_
      refine Ev.bind (ev_prefix _ _) ?_
      rw [h2]
      refine Ev.isF rfl ?_
      refine Ev.bind h3 ?_
      refine Ev.isF rfl ?_
      refine Ev.step (fun k => by rw [lexer_Lex_c0]) ?_
      refine Ev.opt (appL_ok (by simp; omega)) ?_
      rw [wrap_id (by omega) (by omega), show (i : Int) + ((x.2.length : Nat) : Int) = ((i + x.2.length : Nat) : Int) by omega]
      simpa using q2
    refine ⟨fun hd => ?_, fun _ hd => word i ha hi hd⟩
    have hd' : s.drop i = 32 :: (x.2 ++ jt r) := hd
    have hlen := congrArg List.length hd'
    rw [List.length_drop, List.length_cons] at hlen
    have hlt : i < s.length := by omega
    have hd1 : s.drop (i + 1) = x.2 ++ jt r := by
      rw [drop_get hlt] at hd'
      exact (List.cons.inj hd').2
    obtain ⟨toks, q1, q0, q2⟩ := word (i + 1) (by omega) (by omega) hd1
    refine ⟨toks, q1, q0, ?_⟩
    obtain ⟨hne, _, hxl, htk⟩ := hx x List.mem_cons_self
    obtain ⟨h1, _, _⟩ := htk (jt r) (by rw [List.length_append] at hlen; omega) (bl_jt r)
    refine Ev.step (fun k => by rw [lexer_Lex_l0]) ?_
    refine Ev.dT (by omega) ?_
    refine Ev.opt (subD hi) ?_
    rw [hd']
    refine Ev.bind (ev_span1 (by simp [hne]) h1) ?_
    refine Ev.dT (by decide) ?_
    rw [wrap_nat (by omega)]
    exact q2
theorem ev_rcheck_loop (s : List UInt8) : ∀ (m i : Nat), s.length - i ≤ m → Rk (s.drop i) → Ev (fun K => runes_Check_l0 K s (i : Int)) (0, 0) := by
  intro m
  induction m with
  | zero =>
    intro i hm _
    refine Ev.step (fun k => by rw [runes_Check_l0]) ?_
    exact Ev.dF (by simp only [Int.toNat_natCast]; omega) Ev.pure
  | succ m ih =>
    intro i hm hr
    refine Ev.step (fun k => by rw [runes_Check_l0]) ?_
    simp only [Int.toNat_natCast, runeAt_dc]
    refine Ev.d (fun h => ?_) (fun h => Ev.pure)
    have hw := dc_width (s.drop i)
    generalize hq : s.drop i = q at *
    cases hr with
    | nil => exact absurd hq (drop_nil_iff h)
    | cons hne ho ht =>
      obtain ⟨o1, o2, o3⟩ := ho
      have nxt := ih (i + (dc q).2) (by omega) (by rw [← List.drop_drop, hq]; exact ht)
      refine Ev.dF (by omega) ?_
      refine Ev.d (fun h32 => ?_) (fun h32 => ?_)
      · refine Ev.bind (ev_class1 _) ?_
        refine Ev.nF (o2 h32) ?_
        exact Ev.dF (by omega) nxt
      · exact Ev.dF (by omega) nxt
theorem ev_rcheck {s : List UInt8} (h : Rk s) (hl : s.length ≤ 16384) : Ev (fun K => runes_Check K s) (0, 0) := by
  refine Ev.congr (f := fun K => _) ?_ (fun K => by rw [runes_Check])
  exact Ev.dF (by omega) (ev_rcheck_loop s s.length 0 (by omega) h)
theorem rk_jt : ∀ {ws : List Wd}, (∀ x ∈ ws, Tk x) → Rk (jt ws)
  | [], _ => .nil
  | x :: r, h => rk_app (a := [32]) (rk_ascii (by decide)) (rk_app (h x List.mem_cons_self).2.1 (rk_jt fun y hy => h y (List.mem_cons_of_mem _ hy)))
/-- words with blanks between are told as they are -/
theorem ev_lex {ws : List Wd} (hne : ws ≠ []) (h : ∀ x ∈ ws, Tk x) (hl : (jn ws).length ≤ 16384) : ∃ toks, toks.map kt = ws ∧ (∀ k ∈ toks, k.2.2.1 = nOf (kt k)) ∧ Ev (fun K => lexer_Lex K (jn ws)) (toks, 0, 0) := by
  have hr : Rk (jn ws) := by
    cases ws with
    | nil => exact .nil
    | cons x r => exact rk_app (h x List.mem_cons_self).2.1 (rk_jt fun y hy => h y (List.mem_cons_of_mem _ hy))
  obtain ⟨toks, q1, q0, q2⟩ := (lex_run (jn ws) (by omega) ws h 0 [] (by omega) (by simp)).2 hne rfl
  refine ⟨toks, q1, q0, ?_⟩
  refine Ev.congr (f := fun K => _) ?_ (fun K => by rw [lexer_Lex])
  refine Ev.bind (ev_rcheck hr hl) ?_
  refine Ev.nF rfl ?_
  simpa using q2
/-- the words of types -/
def Gd (x : Wd) : Prop := (x.1 = 1 ∧ (lgS x.2 = true ∨ ckS x.2 = true)) ∨ x ∈ ([(3, [45, 62]), (3, [42]), (3, [40]), (3, [41]), (3, [109, 117]), (3, [123]), (3, [125]), (3, [111, 102]), (3, [124]), (3, [105, 110, 116]), (3, [98, 111, 111, 108]), (3, [117, 110, 105, 116])] : List Wd)
theorem Gd.tk {x : Wd} (h : Gd x) : Tk x := by
  rcases h with ⟨h1, h2⟩ | h
  · obtain ⟨k, s⟩ := x
    simp only at h1 h2
    subst h1
    rcases h2 with h2 | h2
    · exact tk_name (lg_parts h2)
    · exact tk_name (ck_one h2)
  · have sg : ∀ {b : UInt8} {w : List UInt8}, (b.toNat < 127 ∧ 33 ≤ b.toNat ∧ b.toNat ≠ 126 ∧ cls ((b.toNat : Nat) : Int) = 0) → (∀ c ∈ w, 32 ≤ c.toNat ∧ c.toNat < 127) → w.length ≤ 10 →
      (fnd sgns (b :: w) = (3, b :: w, 0, 0, (((b :: w).length : Nat) : Int), true) ∧ List.isPrefixOf [40, 42] (b :: w) = false) →
      (∀ t, fnd sgns (b :: w ++ 32 :: t) = (3, b :: w, 0, 0, (((b :: w).length : Nat) : Int), true) ∧ List.isPrefixOf [40, 42] (b :: w ++ 32 :: t) = false) → Tk (3, b :: w) := fun h1 h2 h3 h4 h5 =>
      tk_sign h1 h2 h3 fun tail ht => by
        rcases ht with rfl | ⟨t, rfl⟩
        · rw [List.append_nil]; exact h4
        · exact h5 t
    simp only [List.mem_cons, List.not_mem_nil, or_false] at h
    rcases h with rfl | rfl | rfl | rfl | rfl | rfl | rfl | rfl | rfl | rfl | rfl | rfl
    · exact sg (by decide) (by decide) (by decide) ⟨rfl, rfl⟩ fun t => ⟨rfl, rfl⟩
    · exact sg (by decide) (by decide) (by decide) ⟨rfl, rfl⟩ fun t => ⟨rfl, rfl⟩
    · exact sg (by decide) (by decide) (by decide) ⟨rfl, rfl⟩ fun t => ⟨rfl, rfl⟩
    · exact sg (by decide) (by decide) (by decide) ⟨rfl, rfl⟩ fun t => ⟨rfl, rfl⟩
    · exact tk_key (by decide) (by decide) (by decide) (by decide)
    · exact sg (by decide) (by decide) (by decide) ⟨rfl, rfl⟩ fun t => ⟨rfl, rfl⟩
    · exact sg (by decide) (by decide) (by decide) ⟨rfl, rfl⟩ fun t => ⟨rfl, rfl⟩
    · exact tk_key (by decide) (by decide) (by decide) (by decide)
    · exact sg (by decide) (by decide) (by decide) ⟨rfl, rfl⟩ fun t => ⟨rfl, rfl⟩
    · exact tk_key (by decide) (by decide) (by decide) (by decide)
    · exact tk_key (by decide) (by decide) (by decide) (by decide)
    · exact tk_key (by decide) (by decide) (by decide) (by decide)
end Go.Proofs.YtpplkbcfidpbcaaGreatDoor

/- A number's text is told as it is. -/
namespace Go.Proofs.YtpplkbcfidpbcaaGreatDoor
open Go Go.Am Go.Sx
def Dg (s : List UInt8) : Prop := ∀ b ∈ s, 48 ≤ b.toNat ∧ b.toNat ≤ 57
theorem dgt_nat : ∀ d : Nat, d < 10 → (dgt d).toNat = 48 + d := by decide
theorem dig_dg : ∀ (b n : Nat), n ≤ b → Dg (dig n) := by
  intro b
  induction b with
  | zero => intro n h; rw [dig_small (by omega)]; intro c hc; rw [List.mem_singleton.1 hc, dgt_nat n (by omega)]; omega
  | succ b ih =>
    intro n h
    by_cases h10 : n < 10
    · rw [dig_small h10]; intro c hc; rw [List.mem_singleton.1 hc, dgt_nat n (by omega)]; omega
    · rw [dig_big h10]
      intro c hc
      rcases List.mem_append.1 hc with hc | hc
      · exact ih (n / 10) (by omega) c hc
      · rw [List.mem_singleton.1 hc, dgt_nat _ (by omega)]; omega
theorem fv_snoc (v : Int) (s : List UInt8) (b : UInt8) : fv v (s ++ [b]) = 10 * fv v s + ((b.toNat : Int) - 48) := by unfold fv; rw [List.foldl_append]; rfl
theorem fv_dig : ∀ (b n : Nat), n ≤ b → fv 0 (dig n) = (n : Int) := by
  intro b
  induction b with
  | zero => intro n h; rw [dig_small (by omega)]; show 10 * (0 : Int) + (((dgt n).toNat : Int) - 48) = n; rw [dgt_nat n (by omega)]; omega
  | succ b ih =>
    intro n h
    by_cases h10 : n < 10
    · rw [dig_small h10]; show 10 * (0 : Int) + (((dgt n).toNat : Int) - 48) = n; rw [dgt_nat n (by omega)]; omega
    · rw [dig_big h10, fv_snoc, ih (n / 10) (by omega), dgt_nat _ (by omega)]; omega
theorem fv_ge : ∀ (s : List UInt8) (v : Int), 0 ≤ v → Dg s → v ≤ fv v s
  | [], v, _, _ => Int.le_refl _
  | b :: s, v, h, hd => by
    have hb := hd b List.mem_cons_self
    have := fv_ge s (10 * v + ((b.toNat : Int) - 48)) (by omega) (fun c hc => hd c (List.mem_cons_of_mem _ hc))
    show v ≤ fv (10 * v + ((b.toNat : Int) - 48)) s
    omega
theorem ev_num_loop (s : List UInt8) (neg len : Int) (hl : s.length ≤ 1000) : ∀ (m i : Nat) (v r : Int), s.length = i + m → 0 ≤ v → Dg (s.drop i) → fv v (s.drop i) ≤ 1073741824 → r = (if neg = 1 then -(fv v (s.drop i)) else fv v (s.drop i)) → Ev (fun K => lexer_number_l0 K neg len v s (i : Int)) (2, numS r, r, 0, len, true) := by
  intro m
  induction m with
  | zero =>
    intro i v r hi hv _ hf hr
    have e : s.drop i = [] := List.drop_of_length_le (by omega)
    rw [e] at hf hr
    have hf : v ≤ 1073741824 := hf
    have hr : r = if neg = 1 then -v else v := hr
    refine Ev.step (fun k => by rw [lexer_number_l0]) ?_
    refine Ev.dF (by simp; omega) ?_
    refine Ev.d (fun h => ?_) (fun h => ?_)
    · rw [if_pos h] at hr
      rw [wrap_id (by omega) (by omega), show 0 - v = r by omega]
      exact Ev.bind (ev_Number1 r (by omega)) Ev.pure
    · rw [if_neg h] at hr
      subst hr
      exact Ev.bind (ev_Number1 r (by omega)) Ev.pure
  | succ m ih =>
    intro i v r hi hv hd hf hr
    have hlt : i < s.length := by omega
    have hd0 := drop_get hlt
    rw [hd0] at hd hf hr
    have hb := hd _ List.mem_cons_self
    have hd' : Dg (s.drop (i + 1)) := fun c hc => hd c (List.mem_cons_of_mem _ hc)
    have hg := fv_ge (s.drop (i + 1)) (10 * v + ((s[i].toNat : Int) - 48)) (by omega) hd'
    have hf : fv (10 * v + ((s[i].toNat : Int) - 48)) (s.drop (i + 1)) ≤ 1073741824 := hf
    have hr : r = if neg = 1 then -(fv (10 * v + ((s[i].toNat : Int) - 48)) (s.drop (i + 1))) else fv (10 * v + ((s[i].toNat : Int) - 48)) (s.drop (i + 1)) := hr
    refine Ev.step (fun k => by rw [lexer_number_l0]) ?_
    simp only [Int.toNat_natCast, runeAt_dc]
    rw [hd0, dc_byte (by omega)]
    refine Ev.dT (by omega) ?_
    rw [wrap32 (x := ((s[i].toNat : Nat) : Int) - 48) (by omega) (by omega), wrap_id (x := 10 * v) (by omega) (by omega), wrap_id (x := ((s[i].toNat : Nat) : Int) - 48) (by omega) (by omega), wrap_id (x := 10 * v + (((s[i].toNat : Nat) : Int) - 48)) (by omega) (by omega)]
    refine Ev.dF (by omega) ?_
    exact ih (i + 1) _ r (by omega) (by omega) hd' hf hr
theorem ev_digit (r : Int) : Ev (fun K => lexer_number_1 K r) (decide (cls r = 2)) := by
  refine Ev.congr (f := fun K => _) ?_ (fun K => by rw [lexer_number_1])
  exact Ev.bind (ev_class1 r) Ev.pure
theorem cls_dg {b : UInt8} (h : 48 ≤ b.toNat ∧ b.toNat ≤ 57) : cls ((b.toNat : Nat) : Int) = 2 := by
  unfold cls; rw [if_neg (by omega), if_pos (by omega)]
theorem ev_span3_loop (s : List UInt8) : ∀ (p : List UInt8), Dg p → ∀ (i : Nat) (tail : List UInt8), s.drop i = p ++ tail → Bl tail → i ≤ s.length → Ev (fun K => lexer_span_3_l0 K s s (i : Int)) ((i + p.length : Nat) : Int) := by
  intro p
  induction p with
  | nil =>
    intro _ i tail hd hst hi
    refine Ev.step (fun k => by rw [lexer_span_3_l0]) ?_
    simp only [Int.toNat_natCast, runeAt_dc]
    rcases hst with e | ⟨r, e⟩
    · rw [e] at hd
      have := congrArg List.length hd
      rw [List.length_drop] at this
      simp at this
      exact Ev.dF (by omega) (Ev.pure' (by simp; omega))
    · rw [e] at hd
      have := congrArg List.length hd
      rw [List.length_drop] at this
      simp at this
      refine Ev.dT (by omega) ?_
      rw [hd, List.nil_append, dc_byte (by decide)]
      refine Ev.bind (ev_digit _) ?_
      exact Ev.isT (by decide) (Ev.pure' (by simp))
  | cons b p ih =>
    intro hdg i tail hd hst hi
    have hb := hdg b List.mem_cons_self
    have := congrArg List.length hd
    rw [List.length_drop] at this
    simp at this
    refine Ev.step (fun k => by rw [lexer_span_3_l0]) ?_
    simp only [Int.toNat_natCast, runeAt_dc]
    refine Ev.dT (by omega) ?_
    rw [hd, List.cons_append, dc_byte (by omega)]
    refine Ev.bind (ev_digit _) ?_
    rw [cls_dg hb]
    refine Ev.isF rfl ?_
    have nxt := ih (fun c hc => hdg c (List.mem_cons_of_mem _ hc)) (i + 1) tail (by rw [← List.drop_drop, hd]; rfl) hst (by omega)
    rw [List.length_cons, show i + (p.length + 1) = i + 1 + p.length by omega]
    exact nxt
theorem ev_span3 {p tail : List UInt8} (hp : Dg p) (ht : Bl tail) : Ev (fun K => lexer_span_3 K (p ++ tail)) ((p.length : Nat) : Int) := by
  refine Ev.congr (f := fun K => _) ?_ (fun K => by rw [lexer_span_3])
  have := ev_span3_loop (p ++ tail) p hp 0 tail rfl ht (by omega)
  simpa using this
/-- digits, behind a sign or not -/
theorem ev_num_c0 {pre p tail : List UInt8} (hpre : pre.length = 0 ∨ pre.length = 1) (hp : Dg p) (h0 : p ≠ []) (hl : p.length ≤ 900) (htl : tail.length ≤ 1000000) (ht : Bl tail) (hf : fv 0 p ≤ 1073741824) {r : Int} (hr : r = if (pre.length : Int) = 1 then -(fv 0 p) else fv 0 p) :
    Ev (fun K => lexer_number_c0 K (pre ++ p ++ tail) (pre.length : Int)) (2, numS r, r, 0, ((pre.length + p.length : Nat) : Int), true) := by
  have hpos : 1 ≤ p.length := by cases p with | nil => exact absurd rfl h0 | cons => simp
  have hlen : (pre ++ p ++ tail).length = pre.length + p.length + tail.length := by simp; omega
  have d1 : (pre ++ p ++ tail).drop pre.length = p ++ tail := by rw [List.append_assoc, List.drop_left]
  have d2 : (pre ++ p ++ tail).drop (pre.length + p.length) = tail := by rw [← List.drop_drop, d1, List.drop_left]
  refine Ev.step (fun k => by rw [lexer_number_c0]) ?_
  refine Ev.opt (subD (by omega)) ?_
  rw [d1]
  refine Ev.bind (ev_span3 hp ht) ?_
  rw [wrap_id (by omega) (by omega), show (pre.length : Int) + (p.length : Int) = ((pre.length + p.length : Nat) : Int) by omega]
  refine Ev.dF (by omega) ?_
  refine Ev.opt (subD (by omega)) ?_
  rw [d2]
  have sp := ev_span2 (p := []) (tail := tail) .nil ht.stop
  rw [List.nil_append] at sp
  refine Ev.bind sp ?_
  refine Ev.dF (by decide) ?_
  have sb := subL_ok (l := pre ++ p ++ tail) (a := pre.length) (b := pre.length + p.length) (by omega) (by omega)
  rw [show ((pre ++ p ++ tail).take (pre.length + p.length)).drop pre.length = p by
    rw [List.take_left' (by simp)]; simp] at sb
  refine Ev.opt sb ?_
  have := ev_num_loop p (pre.length : Int) ((pre.length + p.length : Nat) : Int) (by omega) p.length 0 0 r (by omega) (by omega) (by rw [List.drop_zero]; exact hp) (by rw [List.drop_zero]; exact hf) (by rw [List.drop_zero]; exact hr)
  exact this
theorem ev_token_num {s : List UInt8} {v : TokR} (hs : s ≠ []) (hc : cls (((dc s).1 : Nat) : Int) = 2 ∨ (cls (((dc s).1 : Nat) : Int) = 0 ∧ ∃ t, s = 126 :: t)) (h : Ev (fun K => lexer_number K s) v) : Ev (fun K => lexer_token K s) v := by
  refine Ev.congr (f := fun K => _) ?_ (fun K => by rw [lexer_token])
  refine Ev.bind (ev_first hs) ?_
  refine Ev.bind (ev_class1 _) ?_
  obtain ⟨a1, a2, a3, a4, a5, a6⟩ := v
  rcases hc with hc | ⟨hc, t, rfl⟩
  · rw [hc]
    refine Ev.dF (by decide) (Ev.dT rfl ?_)
    exact Ev.bind h Ev.pure
  · rw [hc]
    refine Ev.dF (by decide) (Ev.dF (by decide) ?_)
    refine Ev.opt (a := 126) rfl ?_
    refine Ev.dT (by decide) ?_
    exact Ev.bind h Ev.pure
theorem nOf_num {n : Int} : nOf (2, numS n) = n := by
  have fd := fv_dig n.natAbs n.natAbs (Nat.le_refl _)
  have hd := dig_dg n.natAbs n.natAbs (Nat.le_refl _)
  have hp := (dig_len n.natAbs n.natAbs (Nat.le_refl _)).2
  unfold nOf numS
  rw [if_pos rfl]
  by_cases h0 : n < 0
  · rw [if_pos h0]
    show (if (126 : UInt8) = 126 then -(fv 0 (dig n.natAbs)) else _) = n
    rw [if_pos rfl, fd]; omega
  · rw [if_neg h0]
    show (if ([] ++ dig n.natAbs).headD 0 = 126 then _ else fv 0 ([] ++ dig n.natAbs)) = n
    rw [List.nil_append]
    cases hq : dig n.natAbs with
    | nil => rw [hq] at hp; simp at hp
    | cons b t =>
      rw [hq] at hd fd
      have hb := hd b List.mem_cons_self
      rw [if_neg (by
        show ¬ b = 126
        intro e; subst e; exact absurd hb.2 (by decide)), fd]
      omega
theorem tk_num {n : Int} (h : -1073741824 ≤ n ∧ n ≤ 1073741824) : Tk (2, numS n) := by
  have fd := fv_dig n.natAbs n.natAbs (Nat.le_refl _)
  have hd := dig_dg n.natAbs n.natAbs (Nat.le_refl _)
  have hp := (dig_len n.natAbs n.natAbs (Nat.le_refl _)).2
  have h13 := dig_len13 (n := n.natAbs) (by omega)
  have hl := numS_len (n := n) (by omega)
  have hne : dig n.natAbs ≠ [] := fun e => by rw [e] at hp; simp at hp
  refine ⟨fun e => ?_, rk_ascii fun c hc => ?_, by simp only; omega, fun tail htl ht => ?_⟩
  · have e : numS n = [] := e
    unfold numS at e
    exact hne (List.append_eq_nil_iff.1 e).2
  · have hc : c ∈ numS n := hc
    unfold numS at hc
    rcases List.mem_append.1 hc with hc | hc
    · by_cases h0 : n < 0
      · rw [if_pos h0] at hc; rw [List.mem_singleton.1 hc]; decide
      · rw [if_neg h0] at hc; cases hc
    · have := hd c hc; omega
  · rw [nOf_num]
    simp only
    by_cases h0 : n < 0
    · have e : numS n ++ tail = 126 :: (dig n.natAbs ++ tail) := by unfold numS; rw [if_pos h0]; rfl
      have e1 : dc (numS n ++ tail) = (126, 1) := by rw [e]; exact dc_byte (by decide)
      refine ⟨by rw [e1]; decide, by rw [e]; rfl, ?_⟩
      have core := ev_num_c0 (pre := [126]) (p := dig n.natAbs) (tail := tail) (.inr rfl) hd hne (by omega) htl ht (by rw [fd]; omega) (r := n) (by rw [fd]; show n = if (1 : Int) = 1 then _ else _; rw [if_pos rfl]; omega)
      have len : ((numS n).length : Nat) = ([126] : List UInt8).length + (dig n.natAbs).length := by unfold numS; rw [if_pos h0, List.length_append]
      rw [len]
      refine ev_token_num (by rw [e]; simp) (.inr ⟨by rw [e1]; decide, _, e⟩) ?_
      refine Ev.congr (f := fun K => _) ?_ (fun K => by rw [lexer_number])
      rw [e]
      refine Ev.opt (a := 126) rfl ?_
      refine Ev.dT (by decide) ?_
      exact core
    · have e : numS n = dig n.natAbs := by unfold numS; rw [if_neg h0]; rfl
      obtain ⟨b, t, hq⟩ : ∃ b t, dig n.natAbs = b :: t := by
        cases hq : dig n.natAbs with
        | nil => exact absurd hq hne
        | cons b t => exact ⟨b, t, rfl⟩
      have hb := hd b (by rw [hq]; exact List.mem_cons_self)
      have e1 : dc (numS n ++ tail) = (b.toNat, 1) := by rw [e, hq]; exact dc_byte (by omega)
      have hb40 : ((40 : UInt8) == b) = false := by
        rw [beq_eq_false_iff_ne]; intro h; rw [← h] at hb; exact absurd hb.1 (by decide)
      refine ⟨by rw [e1]; simp only [cls_dg hb]; decide, by rw [e, hq]; show ((40 : UInt8) == b && _) = false; rw [hb40]; rfl, ?_⟩
      have core := ev_num_c0 (pre := []) (p := dig n.natAbs) (tail := tail) (.inl rfl) hd hne (by omega) htl ht (by rw [fd]; omega) (r := n) (by rw [fd]; show n = if (0 : Int) = 1 then _ else _; rw [if_neg (by decide)]; omega)
      have core' : Ev (fun K => lexer_number_c0 K (numS n ++ tail) 0) (2, numS n, n, 0, (((numS n).length : Nat) : Int), true) := by
        rw [List.nil_append, ← e] at core
        simpa using core
      refine ev_token_num (by rw [e, hq]; simp) (.inl (by rw [e1]; exact cls_dg hb)) ?_
      refine Ev.congr (f := fun K => _) ?_ (fun K => by rw [lexer_number])
      have g0 : getI (numS n ++ tail) 0 = some b := by rw [e, hq]; rfl
      refine Ev.opt g0 ?_
      refine Ev.dF (by omega) ?_
      exact core'
end Go.Proofs.YtpplkbcfidpbcaaGreatDoor

/- Expressions as words, and the parser on them. -/
namespace Go.Proofs.YtpplkbcfidpbcaaGreatDoor
open Go Go.Am Go.Sx
/-- each token's number is its text's -/
def Nk (l : List Token) : Prop := ∀ k ∈ l, k.2.2.1 = nOf (kt k)
/-- does an atom begin with these words? -/
def sW (m : List Wd) : Bool := match m with
  | x :: _ => if x.1 = 3 then decide (x.2 = [116, 114, 117, 101]) || (decide (x.2 = [102, 97, 108, 115, 101]) || (decide (x.2 = [40]) || (decide (x.2 = [35, 49]) || decide (x.2 = [35, 50]))))
    else if x.1 = 2 then decide (-1073741824 ≤ nOf x) && decide (nOf x ≤ 1073741824) else decide (x.1 = 1) && lgS x.2
  | [] => false
theorem tok_mem {l : List Token} {i : Int} {k : Token} (h : tokAt l i = some k) : k ∈ l := by
  by_cases hi : 0 ≤ i ∧ i < (l.length : Int)
  · obtain ⟨k', hm, _, hk⟩ := tok_some hi
    rw [h] at hk; cases hk; exact hm
  · rw [tok_none hi] at h; cases h
theorem At.start {l : List Token} {i : Nat} {m : List Wd} (hn : Nk l) (h : At l i m) : stS l i = sW m := by
  cases m with
  | nil => unfold stS sW; rw [h.none]
  | cons x m =>
    obtain ⟨k, h1, h2⟩ := h.tok
    have h3 := hn k (tok_mem h1)
    rw [h2] at h3
    have e1 : k.1 = x.1 := congrArg Prod.fst h2
    have e2 : k.2.1 = x.2 := congrArg Prod.snd h2
    unfold stS sW
    rw [h1]
    simp only [e1, e2, h3]
theorem At.len {l : List Token} {i : Nat} {w R : List Wd} (h : At l i (w ++ R)) : w.length ≤ l.length := by
  unfold At at h
  have := congrArg List.length h
  rw [List.length_drop, List.length_map, List.length_append] at this
  omega
theorem ks1 {l : List Token} {i : Nat} {s : List UInt8} {r : List (List UInt8)} {R : List Wd} (h : At l i ((3, s) :: R)) : ks l (s :: r) i = ks l r (i + 1) := by
  rw [ks, h.key, kW3, decide_eq_true rfl, if_pos rfl]
theorem ks0 {l : List Token} {i : Nat} : ks l [] i = ((), i, 0) := by rw [ks]
theorem nm1 {l : List Token} {i : Nat} {s : List UInt8} {R : List Wd} (h : At l i ((1, s) :: R)) (hc : ckS s = true) : nmR l i = (s, i + 1, 0) := by
  have e : nW ((1, s) :: R) = (s, true) := if_pos (c := (1 : Int) = 1 ∧ ckS s = true) ⟨rfl, hc⟩
  unfold nmR
  rw [h.name, e]
  rfl
theorem ty1 {l : List Token} {i : Nat} {t : Tr} {w R : List Wd} (hp : Pa0 t w) (h : At l i (w ++ R)) (h1 : kW R [42] = false) (h2 : kW R [45, 62] = false) : tyR l i = (t, i + w.length, 0) := by
  have := h.len
  exact hp l i _ R h h1 h2 (by omega)
/-- no expression goes on with these words -/
structure St (R : List Wd) : Prop where
  s : sW R = false
  m : kW R [42] = false
  p : kW R [43] = false
  n : kW R [45] = false
  e : kW R [61] = false
  l : kW R [60] = false
theorem st_nil : St [] := ⟨rfl, rfl, rfl, rfl, rfl, rfl⟩
theorem sW3 {s : List UInt8} {R : List Wd} : sW ((3, s) :: R) = (decide (s = [116, 114, 117, 101]) || (decide (s = [102, 97, 108, 115, 101]) || (decide (s = [40]) || (decide (s = [35, 49]) || decide (s = [35, 50]))))) := by
  unfold sW
  simp only [if_true]
theorem sW2 {s : List UInt8} {R : List Wd} : sW ((2, s) :: R) = (decide (-1073741824 ≤ nOf (2, s)) && decide (nOf (2, s) ≤ 1073741824)) := rfl
theorem sW1 {s : List UInt8} {R : List Wd} : sW ((1, s) :: R) = lgS s := rfl
theorem st_key {s : List UInt8} (R : List Wd) (h : s ∉ [[116, 114, 117, 101], [102, 97, 108, 115, 101], [40], [35, 49], [35, 50], [42], [43], [45], [61], [60]]) : St ((3, s) :: R) := by
  simp only [List.mem_cons, not_or, List.not_mem_nil] at h
  obtain ⟨h1, h2, h3, h4, h5, h6, h7, h8, h9, h10, _⟩ := h
  refine ⟨?_, ?_, ?_, ?_, ?_, ?_⟩
  · rw [sW3, decide_eq_false h1, decide_eq_false h2, decide_eq_false h3, decide_eq_false h4, decide_eq_false h5]; rfl
  all_goals rw [kW3]
  · exact decide_eq_false h6
  · exact decide_eq_false h7
  · exact decide_eq_false h8
  · exact decide_eq_false h9
  · exact decide_eq_false h10
def A5 (t : Tr) (w : List Wd) : Prop := ∀ (l : List Token) (i n : Nat) (R : List Wd), Nk l → At l i (w ++ R) → 8 * w.length + 1 ≤ n → eAtom l n i = (t, i + w.length, 0)
def A4 (t : Tr) (w : List Wd) : Prop := ∀ (l : List Token) (i n : Nat) (R : List Wd), Nk l → At l i (w ++ R) → 8 * w.length + 2 ≤ n → ∃ m, n ≤ m + w.length ∧ eApp l n i = eAppL l m t (i + w.length)
def A3 (t : Tr) (w : List Wd) : Prop := ∀ (l : List Token) (i n : Nat) (R : List Wd), Nk l → At l i (w ++ R) → sW R = false → 8 * w.length + 3 ≤ n → ∃ m, n ≤ m + w.length ∧ eTerm l n i = eTermL l m t (i + w.length)
def A2 (t : Tr) (w : List Wd) : Prop := ∀ (l : List Token) (i n : Nat) (R : List Wd), Nk l → At l i (w ++ R) → sW R = false → kW R [42] = false → 8 * w.length + 4 ≤ n → ∃ m, n ≤ m + w.length ∧ eSum l n i = eSumL l m t (i + w.length)
def A1 (t : Tr) (w : List Wd) : Prop := ∀ (l : List Token) (i n : Nat) (R : List Wd), Nk l → At l i (w ++ R) → St R → 8 * w.length + 5 ≤ n → eCmp l n i = (t, i + w.length, 0)
def A0 (t : Tr) (w : List Wd) : Prop := ∀ (l : List Token) (i n : Nat) (R : List Wd), Nk l → At l i (w ++ R) → St R → 8 * w.length + 6 ≤ n → eExpr l n i = (t, i + w.length, 0)
theorem appL_stop {l : List Token} {m i : Nat} {t : Tr} {R : List Wd} (hn : Nk l) (h : At l i R) (hs : sW R = false) (hm : 1 ≤ m) : eAppL l m t i = (t, i, 0) := by
  obtain ⟨m, rfl⟩ : ∃ q, m = q + 1 := ⟨m - 1, by omega⟩
  rw [eAppL, h.start hn, hs, if_neg (by simp)]
theorem termL_stop {l : List Token} {m i : Nat} {t : Tr} {R : List Wd} (h : At l i R) (hs : kW R [42] = false) (hm : 1 ≤ m) : eTermL l m t i = (t, i, 0) := by
  obtain ⟨m, rfl⟩ : ∃ q, m = q + 1 := ⟨m - 1, by omega⟩
  rw [eTermL, h.key, hs, if_neg (by simp)]
theorem sumL_stop {l : List Token} {m i : Nat} {t : Tr} {R : List Wd} (h : At l i R) (hp : kW R [43] = false) (hs : kW R [45] = false) (hm : 1 ≤ m) : eSumL l m t i = (t, i, 0) := by
  obtain ⟨m, rfl⟩ : ∃ q, m = q + 1 := ⟨m - 1, by omega⟩
  rw [eSumL, h.key, hp, if_neg (by simp), h.key, hs, if_neg (by simp)]
section
variable {t : Tr} {w : List Wd} (hw : w ≠ [])
include hw
theorem A5.to4 (h : A5 t w) : A4 t w := fun l i n R hn ha hm => by
  have hl : 1 ≤ w.length := by cases w with | nil => exact absurd rfl hw | cons => simp
  obtain ⟨n, rfl⟩ : ∃ q, n = q + 1 := ⟨n - 1, by omega⟩
  exact ⟨n, by omega, by rw [eApp, h l i n R hn ha (by omega), bnd_ok]⟩
theorem A4.to3 (h : A4 t w) : A3 t w := fun l i n R hn ha hs hm => by
  have hl : 1 ≤ w.length := by cases w with | nil => exact absurd rfl hw | cons => simp
  obtain ⟨n, rfl⟩ : ∃ q, n = q + 1 := ⟨n - 1, by omega⟩
  obtain ⟨m, h1, h2⟩ := h l i n R hn ha (by omega)
  exact ⟨n, by omega, by rw [eTerm, h2, appL_stop hn ha.app hs (by omega), bnd_ok]⟩
theorem A3.to2 (h : A3 t w) : A2 t w := fun l i n R hn ha hs hk hm => by
  have hl : 1 ≤ w.length := by cases w with | nil => exact absurd rfl hw | cons => simp
  obtain ⟨n, rfl⟩ : ∃ q, n = q + 1 := ⟨n - 1, by omega⟩
  obtain ⟨m, h1, h2⟩ := h l i n R hn ha hs (by omega)
  exact ⟨n, by omega, by rw [eSum, h2, termL_stop ha.app hk (by omega), bnd_ok]⟩
theorem A2.fin (h : A2 t w) {l : List Token} {i n : Nat} {R : List Wd} (hn : Nk l) (ha : At l i (w ++ R)) (hs : sW R = false) (hm : kW R [42] = false) (hp : kW R [43] = false) (hq : kW R [45] = false) (hf : 8 * w.length + 4 ≤ n) : eSum l n i = (t, i + w.length, 0) := by
  have hl : 1 ≤ w.length := by cases w with | nil => exact absurd rfl hw | cons => simp
  obtain ⟨m, h1, h2⟩ := h l i n R hn ha hs hm hf
  rw [h2, sumL_stop ha.app hp hq (by omega)]
theorem A2.to1 (h : A2 t w) : A1 t w := fun l i n R hn ha hs hm => by
  obtain ⟨n, rfl⟩ : ∃ q, n = q + 1 := ⟨n - 1, by omega⟩
  rw [eCmp, h.fin hw hn ha hs.s hs.m hs.p hs.n (by omega), bnd_ok]
  rw [ha.app.key, hs.e, if_neg (by simp), ha.app.key, hs.l, if_neg (by simp)]
theorem sW_app (R : List Wd) : sW (w ++ R) = sW w := by cases w with | nil => exact absurd rfl hw | cons => rfl
theorem kW_app (R : List Wd) (s : List UInt8) : kW (w ++ R) s = kW w s := by cases w with | nil => exact absurd rfl hw | cons => rfl
omit hw in
/-- what begins an atom is no word that begins another form -/
theorem sW_key {s : List UInt8} (h : sW w = true) (hs : s ∉ [[116, 114, 117, 101], [102, 97, 108, 115, 101], [40], [35, 49], [35, 50]]) : kW w s = false := by
  cases w with
  | nil => rfl
  | cons x r =>
    have h : (if x.1 = 3 then decide (x.2 = [116, 114, 117, 101]) || (decide (x.2 = [102, 97, 108, 115, 101]) || (decide (x.2 = [40]) || (decide (x.2 = [35, 49]) || decide (x.2 = [35, 50])))) else if x.1 = 2 then decide (-1073741824 ≤ nOf x) && decide (nOf x ≤ 1073741824) else decide (x.1 = 1) && lgS x.2) = true := h
    show (decide (x.1 = 3) && decide (x.2 = s)) = false
    by_cases h3 : x.1 = 3
    · rw [if_pos h3] at h
      rw [decide_eq_true h3, Bool.true_and]
      refine decide_eq_false fun e => hs ?_
      rw [← e]
      simp only [Bool.or_eq_true, decide_eq_true_eq] at h
      simpa using h
    · rw [decide_eq_false h3, Bool.false_and]
theorem A1.to0 (h : A1 t w) (hst : sW w = true) : A0 t w := fun l i n R hn ha hs hm => by
  obtain ⟨n, rfl⟩ : ∃ q, n = q + 1 := ⟨n - 1, by omega⟩
  have k : ∀ s, s ∉ [[116, 114, 117, 101], [102, 97, 108, 115, 101], [40], [35, 49], [35, 50]] → keyS l (i : Int) s = false := fun s hs => by
    rw [ha.key, kW_app hw, sW_key hst hs]
  rw [eExpr, k _ (by decide), if_neg (by simp), k _ (by decide), if_neg (by simp), k _ (by decide), if_neg (by simp), k _ (by decide), if_neg (by simp), k _ (by decide), if_neg (by simp)]
  exact h l i n R hn ha hs (by omega)
/-- an expression in signs is an atom -/
theorem A0.paren (h : A0 t w) (h41 : kW w [41] = false) : A5 t ((3, [40]) :: (w ++ [(3, [41])])) := fun l i n R hn ha hm => by
  obtain ⟨n, rfl⟩ : ∃ q, n = q + 1 := ⟨n - 1, by omega⟩
  simp only [List.length_cons, List.length_append, List.length_nil] at hm
  have ha : At l i ((3, [40]) :: (w ++ ((3, [41]) :: R))) := by simpa using ha
  obtain ⟨k, h1, h2⟩ := ha.tok
  have e1 : k.1 = 3 := congrArg Prod.fst h2
  have e2 : k.2.1 = [40] := congrArg Prod.snd h2
  have hx := ha.next
  rw [eAtom, ha.start hn, sW3, if_pos (by decide), h1]
  dsimp only
  rw [e1, e2]
  rw [if_neg (by decide), if_neg (by decide), if_neg (by decide), if_neg (by decide), if_neg (by decide), if_neg (by decide), hx.key, kW_app hw, h41, if_neg (by simp)]
  rw [h l (i + 1) n _ hn hx (st_key _ (by decide)) (by omega), bnd_ok]
  rw [hx.app.key, kW3, decide_eq_false (by decide), if_neg (by simp), ks1 hx.app, ks0, bnd_ok]
  simp only [List.length_cons, List.length_append, List.length_nil]
  rw [show i + 1 + w.length + 1 = i + (w.length + (0 + 1) + 1) by omega]
end
/-! ### the forms -/
theorem a_int {n : Int} (h : -1073741824 ≤ n ∧ n ≤ 1073741824) : A5 (.node 20 n [] [] []) [(2, numS n)] := fun l i m R hn ha hm => by
  obtain ⟨m, rfl⟩ : ∃ q, m = q + 1 := ⟨m - 1, by omega⟩
  have ha : At l i ((2, numS n) :: R) := ha
  obtain ⟨k, h1, h2⟩ := ha.tok
  have h3 := hn k (tok_mem h1)
  rw [h2, nOf_num] at h3
  have e1 : k.1 = 2 := congrArg Prod.fst h2
  have hs : sW ((2, numS n) :: R) = true := by
    rw [sW2, nOf_num, decide_eq_true h.1, decide_eq_true h.2]; rfl
  rw [eAtom, ha.start hn, hs, if_pos rfl, h1]
  dsimp only
  rw [e1, h3, if_pos rfl]
  rfl
theorem a_var {s : List UInt8} (h : lgS s = true) : A5 (.node 23 0 s [] []) [(1, s)] := fun l i m R hn ha hm => by
  obtain ⟨m, rfl⟩ : ∃ q, m = q + 1 := ⟨m - 1, by omega⟩
  have ha : At l i ((1, s) :: R) := ha
  obtain ⟨k, h1, h2⟩ := ha.tok
  have e1 : k.1 = 1 := congrArg Prod.fst h2
  have e2 : k.2.1 = s := congrArg Prod.snd h2
  have hs : sW ((1, s) :: R) = true := by
    rw [sW1, h]
  rw [eAtom, ha.start hn, hs, if_pos rfl, h1]
  dsimp only
  rw [e1, e2]
  rw [if_neg (by decide), if_pos rfl]
  rfl
theorem a_bool {n : Int} (h : n = 0 ∨ n = 1) : A5 (.node 21 n [] [] []) [(3, boolS n)] := fun l i m R hn ha hm => by
  obtain ⟨m, rfl⟩ : ∃ q, m = q + 1 := ⟨m - 1, by omega⟩
  have ha : At l i ((3, boolS n) :: R) := ha
  obtain ⟨k, h1, h2⟩ := ha.tok
  have e1 : k.1 = 3 := congrArg Prod.fst h2
  have e2 : k.2.1 = boolS n := congrArg Prod.snd h2
  rw [eAtom, ha.start hn, sW3]
  rcases h with rfl | rfl
  · rw [if_pos (by decide), h1]
    dsimp only
    rw [e1, e2]
    rw [if_neg (by decide), if_neg (by decide), if_neg (by decide), if_pos (by decide)]
    rfl
  · rw [if_pos (by decide), h1]
    dsimp only
    rw [e1, e2]
    rw [if_neg (by decide), if_neg (by decide), if_pos (by decide)]
    rfl
theorem a_unit : A5 (.node 22 0 [] [] []) [(3, [40]), (3, [41])] := fun l i m R hn ha hm => by
  obtain ⟨m, rfl⟩ : ∃ q, m = q + 1 := ⟨m - 1, by omega⟩
  have ha : At l i ((3, [40]) :: ((3, [41]) :: R)) := ha
  obtain ⟨k, h1, h2⟩ := ha.tok
  have e1 : k.1 = 3 := congrArg Prod.fst h2
  have e2 : k.2.1 = [40] := congrArg Prod.snd h2
  rw [eAtom, ha.start hn, sW3, if_pos (by decide), h1]
  dsimp only
  rw [e1, e2]
  rw [if_neg (by decide), if_neg (by decide), if_neg (by decide), if_neg (by decide), if_neg (by decide), if_neg (by decide), ha.next.key, kW3, decide_eq_true rfl, if_pos rfl]
  rfl
section
variable {a b c : Tr} {wa wb wc : List Wd}
theorem a_sel {s : List UInt8} {kd : Int} (hs : (s = [35, 49] ∧ kd = 27) ∨ (s = [35, 50] ∧ kd = 28)) (ha : A5 a wa) : A5 (.node kd 0 [] [] [a]) ((3, s) :: wa) := fun l i m R hn hat hm => by
  obtain ⟨m, rfl⟩ : ∃ q, m = q + 1 := ⟨m - 1, by omega⟩
  simp only [List.length_cons] at hm
  have hat : At l i ((3, s) :: (wa ++ R)) := hat
  obtain ⟨k, h1, h2⟩ := hat.tok
  have e1 : k.1 = 3 := congrArg Prod.fst h2
  have e2 : k.2.1 = s := congrArg Prod.snd h2
  have hr := ha l (i + 1) m R hn hat.next (by omega)
  rw [eAtom, hat.start hn, sW3]
  rcases hs with ⟨rfl, rfl⟩ | ⟨rfl, rfl⟩
  · rw [if_pos (by decide), h1]
    dsimp only
    rw [e1, e2]
    rw [if_neg (by decide), if_neg (by decide), if_neg (by decide), if_neg (by decide), if_pos rfl, hr, bnd_ok, List.length_cons, show i + 1 + wa.length = i + (wa.length + 1) by omega]
  · rw [if_pos (by decide), h1]
    dsimp only
    rw [e1, e2]
    rw [if_neg (by decide), if_neg (by decide), if_neg (by decide), if_neg (by decide), if_neg (by decide), if_pos rfl, hr, bnd_ok, List.length_cons, show i + 1 + wa.length = i + (wa.length + 1) by omega]
theorem a_pair (hwa : wa ≠ []) (h41 : kW wa [41] = false) (ha : A0 a wa) (hb : A0 b wb) : A5 (.node 26 0 [] [] [a, b]) ((3, [40]) :: (wa ++ (3, [44]) :: (wb ++ [(3, [41])]))) := fun l i n R hn hat hm => by
  obtain ⟨n, rfl⟩ : ∃ q, n = q + 1 := ⟨n - 1, by omega⟩
  simp only [List.length_cons, List.length_append, List.length_nil] at hm
  have hat : At l i ((3, [40]) :: (wa ++ ((3, [44]) :: (wb ++ ((3, [41]) :: R))))) := by simpa using hat
  obtain ⟨k, h1, h2⟩ := hat.tok
  have e1 : k.1 = 3 := congrArg Prod.fst h2
  have e2 : k.2.1 = [40] := congrArg Prod.snd h2
  have hx := hat.next
  rw [eAtom, hat.start hn, sW3, if_pos (by decide), h1]
  dsimp only
  rw [e1, e2]
  rw [if_neg (by decide), if_neg (by decide), if_neg (by decide), if_neg (by decide), if_neg (by decide), if_neg (by decide), hx.key, kW_app hwa, h41, if_neg (by simp)]
  rw [ha l (i + 1) n _ hn hx (st_key _ (by decide)) (by omega), bnd_ok]
  have hy := hx.app
  rw [hy.key, kW3, decide_eq_true rfl, if_pos rfl]
  rw [hb l _ n _ hn hy.next (st_key _ (by decide)) (by omega), bnd_ok]
  rw [ks1 hy.next.app, ks0, bnd_ok]
  simp only [List.length_cons, List.length_append, List.length_nil]
  rw [show i + 1 + wa.length + 1 + wb.length + 1 = i + (wa.length + (wb.length + (0 + 1) + 1) + 1) by omega]
theorem a_app (ha : A4 a wa) (hb : A5 b wb) (hwb : wb ≠ []) (hsb : sW wb = true) : A4 (.node 25 0 [] [] [a, b]) (wa ++ wb) := fun l i n R hn hat hm => by
  have hl : 1 ≤ wb.length := by cases wb with | nil => exact absurd rfl hwb | cons => simp
  rw [List.length_append] at hm
  rw [List.append_assoc] at hat
  obtain ⟨m, h1, h2⟩ := ha l i n _ hn hat (by omega)
  obtain ⟨m, rfl⟩ : ∃ q, m = q + 1 := ⟨m - 1, by omega⟩
  refine ⟨m, by rw [List.length_append]; omega, ?_⟩
  rw [h2, eAppL, hat.app.start hn, sW_app hwb, hsb, if_pos rfl, hb l _ m R hn hat.app (by omega), bnd_ok, List.length_append, Nat.add_assoc]
theorem a_mul (ha : A3 a wa) (hb : A4 b wb) (hwb : wb ≠ []) : A3 (.node 31 3 [] [] [a, b]) (wa ++ (3, [42]) :: wb) := fun l i n R hn hat hs hm => by
  have hl : 1 ≤ wb.length := by cases wb with | nil => exact absurd rfl hwb | cons => simp
  rw [List.length_append, List.length_cons] at hm
  have hat : At l i (wa ++ ((3, [42]) :: (wb ++ R))) := by simpa using hat
  obtain ⟨m, h1, h2⟩ := ha l i n _ hn hat (by rw [sW3]; decide) (by omega)
  obtain ⟨m, rfl⟩ : ∃ q, m = q + 1 := ⟨m - 1, by omega⟩
  obtain ⟨q, h3, h4⟩ := hb l (i + wa.length + 1) m R hn hat.app.next (by omega)
  refine ⟨m, by rw [List.length_append, List.length_cons]; omega, ?_⟩
  rw [h2, eTermL, hat.app.key, kW3, decide_eq_true rfl, if_pos rfl, h4, appL_stop hn hat.app.next.app hs (by omega), bnd_ok, List.length_append, List.length_cons, show i + wa.length + 1 + wb.length = i + (wa.length + (wb.length + 1)) by omega]
  rfl
theorem a_sum {s : List UInt8} {op : Int} (ho : (s = [43] ∧ op = 1) ∨ (s = [45] ∧ op = 2)) (ha : A2 a wa) (hb : A3 b wb) (hwb : wb ≠ []) : A2 (.node 31 op [] [] [a, b]) (wa ++ (3, s) :: wb) := fun l i n R hn hat hs hk hm => by
  have hl : 1 ≤ wb.length := by cases wb with | nil => exact absurd rfl hwb | cons => simp
  rw [List.length_append, List.length_cons] at hm
  have hat : At l i (wa ++ ((3, s) :: (wb ++ R))) := by simpa using hat
  have hs1 : sW ((3, s) :: (wb ++ R)) = false := by rw [sW3]; rcases ho with ⟨rfl, _⟩ | ⟨rfl, _⟩ <;> decide
  have hk1 : kW ((3, s) :: (wb ++ R)) [42] = false := by rw [kW3]; rcases ho with ⟨rfl, _⟩ | ⟨rfl, _⟩ <;> decide
  obtain ⟨m, h1, h2⟩ := ha l i n _ hn hat hs1 hk1 (by omega)
  obtain ⟨m, rfl⟩ : ∃ q, m = q + 1 := ⟨m - 1, by omega⟩
  obtain ⟨q, h3, h4⟩ := hb l (i + wa.length + 1) m R hn hat.app.next hs (by omega)
  refine ⟨m, by rw [List.length_append, List.length_cons]; omega, ?_⟩
  rw [h2, eSumL, hat.app.key, kW3, hat.app.key, kW3, h4, termL_stop hat.app.next.app hk (by omega), bnd_ok, bnd_ok, List.length_append, List.length_cons, show i + wa.length + 1 + wb.length = i + (wa.length + (wb.length + 1)) by omega]
  rcases ho with ⟨rfl, rfl⟩ | ⟨rfl, rfl⟩
  · rw [if_pos (by decide)]; rfl
  · rw [if_neg (by decide), if_pos (by decide)]; rfl
theorem a_cmp {s : List UInt8} {op : Int} (ho : (s = [61] ∧ op = 4) ∨ (s = [60] ∧ op = 5)) (hwa : wa ≠ []) (ha : A2 a wa) (hb : A2 b wb) (hwb : wb ≠ []) : A1 (.node 31 op [] [] [a, b]) (wa ++ (3, s) :: wb) := fun l i n R hn hat hs hm => by
  obtain ⟨n, rfl⟩ : ∃ q, n = q + 1 := ⟨n - 1, by omega⟩
  rw [List.length_append, List.length_cons] at hm
  have hat : At l i (wa ++ ((3, s) :: (wb ++ R))) := by simpa using hat
  have hs1 : sW ((3, s) :: (wb ++ R)) = false := by rw [sW3]; rcases ho with ⟨rfl, _⟩ | ⟨rfl, _⟩ <;> decide
  have hk : ∀ u, u = [42] ∨ u = [43] ∨ u = [45] → kW ((3, s) :: (wb ++ R)) u = false := by
    intro u hu
    rw [kW3]
    rcases ho with ⟨rfl, _⟩ | ⟨rfl, _⟩ <;> rcases hu with rfl | rfl | rfl <;> decide
  rw [eCmp, ha.fin hwa hn hat hs1 (hk _ (.inl rfl)) (hk _ (.inr (.inl rfl))) (hk _ (.inr (.inr rfl))) (by omega), bnd_ok]
  rw [hat.app.key, kW3, hat.app.key, kW3, hb.fin hwb hn hat.app.next hs.s hs.m hs.p hs.n (by omega), bnd_ok, bnd_ok, List.length_append, List.length_cons, show i + wa.length + 1 + wb.length = i + (wa.length + (wb.length + 1)) by omega]
  rcases ho with ⟨rfl, rfl⟩ | ⟨rfl, rfl⟩
  · rw [if_pos (by decide)]; rfl
  · rw [if_neg (by decide), if_pos (by decide)]; rfl
/-- which word stands first -/
theorem keyw {l : List Token} {i : Nat} {s : List UInt8} {R : List Wd} (h : At l i ((3, s) :: R)) (u : List UInt8) : keyS l (i : Int) u = decide (s = u) := by rw [h.key, kW3]
theorem a_lam {s : List UInt8} {t : Tr} {wt : List Wd} (hc : ckS s = true) (ht : Pa0 t wt) (hb : A0 b wb) : A0 (.node 24 0 s [] [t, b]) ((3, [102, 110]) :: (3, [40]) :: (1, s) :: (3, [58]) :: (wt ++ (3, [41]) :: (3, [61, 62]) :: wb)) := fun l i n R hn hat hs hm => by
  obtain ⟨n, rfl⟩ : ∃ q, n = q + 1 := ⟨n - 1, by omega⟩
  simp only [List.length_append, List.length_cons] at hm
  have hat : At l i ((3, [102, 110]) :: (3, [40]) :: (1, s) :: (3, [58]) :: (wt ++ ((3, [41]) :: (3, [61, 62]) :: (wb ++ R)))) := by simpa using hat
  have h4 := hat.next.next.next.next
  rw [eExpr, keyw hat, if_pos (by decide), ks1 hat.next, ks0, bnd_ok, nm1 hat.next.next hc, bnd_ok, ks1 hat.next.next.next, ks0, bnd_ok]
  rw [ty1 ht h4 (by rw [kW3]; decide) (by rw [kW3]; decide), bnd_ok, ks1 h4.app, ks1 h4.app.next, ks0, bnd_ok, hb l _ n R hn h4.app.next.next hs (by omega), bnd_ok]
  simp only [List.length_append, List.length_cons]
  rw [show i + 1 + 1 + 1 + 1 + wt.length + 1 + 1 + wb.length = i + (wt.length + (wb.length + 1 + 1) + 1 + 1 + 1 + 1) by omega]
theorem a_let {s : List UInt8} (hc : ckS s = true) (ha : A0 a wa) (hb : A0 b wb) : A0 (.node 29 0 s [] [a, b]) ((3, [108, 101, 116]) :: (1, s) :: (3, [61]) :: (wa ++ (3, [105, 110]) :: (wb ++ [(3, [101, 110, 100])]))) := fun l i n R hn hat hs hm => by
  obtain ⟨n, rfl⟩ : ∃ q, n = q + 1 := ⟨n - 1, by omega⟩
  simp only [List.length_append, List.length_cons, List.length_nil] at hm
  have hat : At l i ((3, [108, 101, 116]) :: (1, s) :: (3, [61]) :: (wa ++ ((3, [105, 110]) :: (wb ++ ((3, [101, 110, 100]) :: R))))) := by simpa using hat
  have h3 := hat.next.next.next
  rw [eExpr, keyw hat, if_neg (by decide), keyw hat, if_pos (by decide), nm1 hat.next hc, bnd_ok, ks1 hat.next.next, ks0, bnd_ok]
  rw [ha l _ n _ hn h3 (st_key _ (by decide)) (by omega), bnd_ok, ks1 h3.app, ks0, bnd_ok, hb l _ n _ hn h3.app.next (st_key _ (by decide)) (by omega), bnd_ok, ks1 h3.app.next.app, ks0, bnd_ok]
  simp only [List.length_append, List.length_cons, List.length_nil]
  rw [show i + 1 + 1 + 1 + wa.length + 1 + wb.length + 1 = i + (wa.length + (wb.length + (0 + 1) + 1) + 1 + 1 + 1) by omega]
theorem a_if (ha : A0 a wa) (hb : A0 b wb) (hc : A0 c wc) : A0 (.node 30 0 [] [] [a, b, c]) ((3, [105, 102]) :: (wa ++ (3, [116, 104, 101, 110]) :: (wb ++ (3, [101, 108, 115, 101]) :: wc))) := fun l i n R hn hat hs hm => by
  obtain ⟨n, rfl⟩ : ∃ q, n = q + 1 := ⟨n - 1, by omega⟩
  simp only [List.length_append, List.length_cons] at hm
  have hat : At l i ((3, [105, 102]) :: (wa ++ ((3, [116, 104, 101, 110]) :: (wb ++ ((3, [101, 108, 115, 101]) :: (wc ++ R)))))) := by simpa using hat
  have h1 := hat.next
  rw [eExpr, keyw hat, if_neg (by decide), keyw hat, if_neg (by decide), keyw hat, if_pos (by decide)]
  rw [ha l _ n _ hn h1 (st_key _ (by decide)) (by omega), bnd_ok, ks1 h1.app, ks0, bnd_ok, hb l _ n _ hn h1.app.next (st_key _ (by decide)) (by omega), bnd_ok, ks1 h1.app.next.app, ks0, bnd_ok, hc l _ n _ hn h1.app.next.app.next hs (by omega), bnd_ok]
  simp only [List.length_append, List.length_cons]
  rw [show i + 1 + wa.length + 1 + wb.length + 1 + wc.length = i + (wa.length + (wb.length + (wc.length + 1) + 1) + 1) by omega]
/-- an arm: its name, its variable, its expression, that one's words -/
abbrev AX := List UInt8 × List UInt8 × Tr × List Wd
def xTr (a : AX) : Tr := .node 34 0 a.1 a.2.1 [a.2.2.1]
def xW (a : AX) : List Wd := (1, a.1) :: (1, a.2.1) :: (3, [61, 62]) :: a.2.2.2
/-- arms, and their end -/
def xsW : List AX → List Wd
  | [] => [(3, [101, 110, 100])]
  | [a] => xW a ++ [(3, [101, 110, 100])]
  | a :: r => xW a ++ (3, [124]) :: xsW r
theorem a_arms (l : List Token) (hn : Nk l) : ∀ (r : List AX), r ≠ [] → (∀ a ∈ r, ckS a.1 = true ∧ ckS a.2.1 = true ∧ A0 a.2.2.1 a.2.2.2) → ∀ (i n : Nat) (R : List Wd) (out : List Tr), At l i (xsW r ++ R) → 8 * (xsW r).length + 1 ≤ n → eArms l n out i = (out ++ r.map xTr, i + (xsW r).length, 0)
  | [], h, _, _, _, _, _, _, _ => absurd rfl h
  | [a], _, h, i, n, R, out, hat, hm => by
    obtain ⟨n, rfl⟩ : ∃ q, n = q + 1 := ⟨n - 1, by omega⟩
    obtain ⟨h1, h2, h3⟩ := h a List.mem_cons_self
    simp only [xsW, xW, List.length_append, List.length_cons, List.length_nil] at hm
    have hat : At l i ((1, a.1) :: (1, a.2.1) :: (3, [61, 62]) :: (a.2.2.2 ++ ((3, [101, 110, 100]) :: R))) := by simpa [xsW, xW] using hat
    have h4 := hat.next.next.next
    rw [eArms, nm1 hat h1, bnd_ok, nm1 hat.next h2, bnd_ok, ks1 hat.next.next, ks0, bnd_ok, h3 l _ n _ hn h4 (st_key _ (by decide)) (by omega), bnd_ok, keyw h4.app, if_neg (by decide), ks1 h4.app, ks0, bnd_ok]
    simp only [xsW, xW, List.length_append, List.length_cons, List.length_nil]
    rw [show i + 1 + 1 + 1 + a.2.2.2.length + 1 = i + (a.2.2.2.length + 1 + 1 + 1 + (0 + 1)) by omega]
    rfl
  | a :: b :: r, _, h, i, n, R, out, hat, hm => by
    obtain ⟨n, rfl⟩ : ∃ q, n = q + 1 := ⟨n - 1, by omega⟩
    obtain ⟨h1, h2, h3⟩ := h a List.mem_cons_self
    have e : xsW (a :: b :: r) = xW a ++ (3, [124]) :: xsW (b :: r) := rfl
    rw [e] at hat hm ⊢
    simp only [xW, List.length_append, List.length_cons] at hm
    have hat : At l i ((1, a.1) :: (1, a.2.1) :: (3, [61, 62]) :: (a.2.2.2 ++ ((3, [124]) :: (xsW (b :: r) ++ R)))) := by simpa [xW] using hat
    have h4 := hat.next.next.next
    rw [eArms, nm1 hat h1, bnd_ok, nm1 hat.next h2, bnd_ok, ks1 hat.next.next, ks0, bnd_ok, h3 l _ n _ hn h4 (st_key _ (by decide)) (by omega), bnd_ok, keyw h4.app, if_pos (by decide)]
    rw [a_arms l hn (b :: r) (by simp) (fun x hx => h x (List.mem_cons_of_mem _ hx)) _ n R _ h4.app.next (by omega)]
    simp only [xW, List.length_append, List.length_cons]
    rw [show i + 1 + 1 + 1 + a.2.2.2.length + 1 + (xsW (b :: r)).length = i + (a.2.2.2.length + 1 + 1 + 1 + ((xsW (b :: r)).length + 1)) by omega]
    simp [xTr]
theorem a_case {r : List AX} (ha : A0 a wa) (h0 : r ≠ []) (h : ∀ x ∈ r, ckS x.1 = true ∧ ckS x.2.1 = true ∧ A0 x.2.2.1 x.2.2.2) : A0 (.node 32 0 [] [] (a :: r.map xTr)) ((3, [99, 97, 115, 101]) :: (wa ++ (3, [111, 102]) :: xsW r)) := fun l i n R hn hat hs hm => by
  obtain ⟨n, rfl⟩ : ∃ q, n = q + 1 := ⟨n - 1, by omega⟩
  simp only [List.length_append, List.length_cons] at hm
  have hat : At l i ((3, [99, 97, 115, 101]) :: (wa ++ ((3, [111, 102]) :: (xsW r ++ R)))) := by simpa using hat
  have h1 := hat.next
  rw [eExpr, keyw hat, if_neg (by decide), keyw hat, if_neg (by decide), keyw hat, if_neg (by decide), keyw hat, if_pos (by decide)]
  rw [ha l _ n _ hn h1 (st_key _ (by decide)) (by omega), bnd_ok, ks1 h1.app, ks0, bnd_ok, a_arms l hn r h0 h _ n R [] h1.app.next (by omega), bnd_ok]
  simp only [List.length_append, List.length_cons, List.nil_append]
  rw [show i + 1 + wa.length + 1 + (xsW r).length = i + (wa.length + ((xsW r).length + 1) + 1) by omega]
theorem a_fold {r : List AX} {t : Tr} {wt : List Wd} (ha : A0 a wa) (ht : Pa0 t wt) (h0 : r ≠ []) (h : ∀ x ∈ r, ckS x.1 = true ∧ ckS x.2.1 = true ∧ A0 x.2.2.1 x.2.2.2) : A0 (.node 33 0 [] [] (a :: t :: r.map xTr)) ((3, [102, 111, 108, 100]) :: (wa ++ (3, [116, 111]) :: (wt ++ (3, [111, 102]) :: xsW r))) := fun l i n R hn hat hs hm => by
  obtain ⟨n, rfl⟩ : ∃ q, n = q + 1 := ⟨n - 1, by omega⟩
  simp only [List.length_append, List.length_cons] at hm
  have hat : At l i ((3, [102, 111, 108, 100]) :: (wa ++ ((3, [116, 111]) :: (wt ++ ((3, [111, 102]) :: (xsW r ++ R)))))) := by simpa using hat
  have h1 := hat.next
  have h2 := h1.app.next
  rw [eExpr, keyw hat, if_neg (by decide), keyw hat, if_neg (by decide), keyw hat, if_neg (by decide), keyw hat, if_neg (by decide), keyw hat, if_pos (by decide)]
  rw [ha l _ n _ hn h1 (st_key _ (by decide)) (by omega), bnd_ok, ks1 h1.app, ks0, bnd_ok, ty1 ht h2 (by rw [kW3]; decide) (by rw [kW3]; decide), bnd_ok, ks1 h2.app, ks0, bnd_ok, a_arms l hn r h0 h _ n R [] h2.app.next (by omega), bnd_ok]
  simp only [List.length_append, List.length_cons, List.nil_append]
  rw [show i + 1 + wa.length + 1 + wt.length + 1 + (xsW r).length = i + (wa.length + (wt.length + ((xsW r).length + 1) + 1) + 1) by omega]
end
end Go.Proofs.YtpplkbcfidpbcaaGreatDoor

/- A type is written as its words. -/
namespace Go.Proofs.YtpplkbcfidpbcaaGreatDoor
open Go Go.Am Go.Sx
def need (t : Tr) (level : Int) : Bool := (decide (kindOf t = 5) && decide (0 < level)) || (decide (kindOf t = 6) && decide (1 < level))
theorem need0 (t : Tr) : need t 0 = false := by simp [need]
theorem ev_paren (b : Bool) (s : List UInt8) (hs : s.length ≤ 1099511627776) : Ev (fun K => ptype_paren K b s) (par b s) := by
  refine Ev.congr (f := fun K => _) ?_ (fun k => by rw [ptype_paren])
  unfold par
  cases b
  · exact Ev.isF rfl Ev.pure
  · exact Ev.isT rfl (Ev.opt (catS_ok (by simp; omega)) (Ev.opt (catS_ok (by simp; omega)) Ev.pure))
theorem jn_wp {w : List Wd} (h : w ≠ []) (b : Bool) : jn (wp b w) = par b (jn w) := by
  cases b with
  | false => rfl
  | true =>
    show [40] ++ jt (w ++ [(3, [41])]) = [40, 32] ++ jn w ++ [32, 41]
    rw [jt_app, jt_jn h]
    simp [jt]
theorem wp_ne {w : List Wd} (h : w ≠ []) (b : Bool) : wp b w ≠ [] := by
  cases b with
  | false => exact h
  | true => simp [wp]
theorem wp_len (b : Bool) (w : List Wd) : (wp b w).length ≤ w.length + 2 := by
  cases b <;> simp [wp]
theorem wp_gd {w : List Wd} (h : ∀ x ∈ w, Gd x) (b : Bool) : ∀ x ∈ wp b w, Gd x := by
  cases b with
  | false => exact h
  | true =>
    intro x hx
    rw [wp_t] at hx
    simp only [List.mem_cons, List.mem_append, List.not_mem_nil, or_false] at hx
    rcases hx with rfl | hx | rfl
    · exact .inr (by decide)
    · exact h x hx
    · exact .inr (by decide)
/-- a tree's words: they are written, and parsed -/
structure Bk (t : Tr) (w : List Wd) : Prop where
  ne : w ≠ []
  gd : ∀ x ∈ w, Gd x
  len : (jn w).length ≤ 200 * t.w
  cnt : w.length ≤ 8 * t.w
  wr : ∀ level : Int, Ev (fun K => ptype_write K t level) (jn (wp (need t level) w))
  p2 : Pa2 t (wp (need t 2) w)
  p1 : Pa1 t (wp (need t 1) w)
  p0 : Pa0 t w
/-- constructors, their types and words -/
abbrev CW := List UInt8 × Tr × List Wd
def cTr (x : CW) : Tr := .node 8 0 x.1 [] [x.2.1]
def cW (x : CW) : List Wd := (1, x.1) :: (3, [111, 102]) :: x.2.2
def csW : List CW → List Wd
  | [] => []
  | [x] => cW x
  | x :: y :: r => cW x ++ (3, [124]) :: csW (y :: r)
def CB (x : CW) : Prop := ckS x.1 = true ∧ Bk x.2.1 x.2.2
theorem csW_cons (x y : CW) (r : List CW) : csW (x :: y :: r) = cW x ++ (3, [124]) :: csW (y :: r) := rfl
theorem csW_ne (x : CW) (r : List CW) : csW (x :: r) ≠ [] := by cases r <;> simp [csW, cW]
theorem cs_gd : ∀ l : List CW, (∀ x ∈ l, CB x) → ∀ z ∈ csW l, Gd z
  | [], _, z, hz => by simp [csW] at hz
  | [x], h, z, hz => by
    obtain ⟨h1, h2⟩ := h x List.mem_cons_self
    simp only [csW, cW, List.mem_cons] at hz
    rcases hz with rfl | rfl | hz
    · exact .inl ⟨rfl, .inr h1⟩
    · exact .inr (by decide)
    · exact h2.gd z hz
  | x :: y :: r, h, z, hz => by
    obtain ⟨h1, h2⟩ := h x List.mem_cons_self
    rw [csW_cons] at hz
    simp only [cW, List.mem_append, List.mem_cons] at hz
    rcases hz with (rfl | rfl | hz) | rfl | hz
    · exact .inl ⟨rfl, .inr h1⟩
    · exact .inr (by decide)
    · exact h2.gd z hz
    · exact .inr (by decide)
    · exact cs_gd (y :: r) (fun q hq => h q (List.mem_cons_of_mem _ hq)) z hz
theorem cs_consW : ∀ (x : CW) (r : List CW), (∀ y ∈ x :: r, CB y) → ConsW ((x :: r).map cTr) (csW (x :: r))
  | x, [], h => by
    obtain ⟨h1, h2⟩ := h x List.mem_cons_self
    exact .one h1 h2.p0
  | x, y :: r, h => by
    obtain ⟨h1, h2⟩ := h x List.mem_cons_self
    exact .more h1 h2.p0 (cs_consW y r fun q hq => h q (List.mem_cons_of_mem _ hq))
abbrev bar : List UInt8 := [32, 124, 32]
def cT (x : CW) : List UInt8 := x.1 ++ [32, 111, 102, 32] ++ jn x.2.2
theorem jn_cW {x : CW} (h : CB x) : jn (cW x) = cT x := by
  show x.1 ++ (32 :: ([111, 102] ++ jt x.2.2)) = x.1 ++ [32, 111, 102, 32] ++ jn x.2.2
  rw [jt_jn h.2.ne]
  simp
theorem cW_ne (x : CW) : cW x ≠ [] := by simp [cW]
theorem jn_cs : ∀ (x : CW) (r : List CW), (∀ y ∈ x :: r, CB y) → jn (csW (x :: r)) = cT x ++ Lib.joinTail bar (r.map cT)
  | x, [], h => by
    show jn (cW x) = _
    rw [jn_cW (h x List.mem_cons_self)]; simp [Lib.joinTail]
  | x, y :: r, h => by
    have ih := jn_cs y r fun q hq => h q (List.mem_cons_of_mem _ hq)
    rw [csW_cons, jn_app (cW_ne x), jn_cW (h x List.mem_cons_self)]
    show cT x ++ (32 :: ([124] ++ jt (csW (y :: r)))) = _
    rw [jt_jn (csW_ne y r), ih]
    simp [Lib.joinTail]
theorem jn_join (x : CW) (r : List CW) (h : ∀ y ∈ x :: r, CB y) : jn (csW (x :: r)) = Lib.join ((x :: r).map cT) bar := by
  rw [jn_cs x r h, List.map_cons, Lib.join_cons]
theorem cT_len {x : CW} (h : CB x) : (cT x).length + 3 ≤ 200 * (cTr x).w := by
  have h1 := ck_len h.1
  have h2 := h.2.len
  unfold cTr cT
  rw [w_node, wL_cons, wL_nil]
  simp; omega
theorem tail_len : ∀ l : List CW, (∀ x ∈ l, CB x) → (Lib.joinTail bar (l.map cT)).length ≤ 200 * wL (l.map cTr)
  | [], _ => by simp [Lib.joinTail]
  | x :: r, h => by
    have h1 := cT_len (h x List.mem_cons_self)
    have ih := tail_len r fun q hq => h q (List.mem_cons_of_mem _ hq)
    rw [List.map_cons, List.map_cons, wL_cons]
    have : Lib.joinTail bar (cT x :: r.map cT) = bar ++ cT x ++ Lib.joinTail bar (r.map cT) := by simp [Lib.joinTail]
    rw [this]
    simp only [List.length_append, List.length_cons, List.length_nil]
    omega
theorem cs_len (x : CW) (r : List CW) (h : ∀ y ∈ x :: r, CB y) : (jn (csW (x :: r))).length ≤ 200 * wL ((x :: r).map cTr) := by
  have h1 := cT_len (h x List.mem_cons_self)
  have h2 := tail_len r fun q hq => h q (List.mem_cons_of_mem _ hq)
  rw [jn_cs x r h, List.map_cons, wL_cons, List.length_append]
  omega
theorem cs_cnt : ∀ (x : CW) (r : List CW), (∀ y ∈ x :: r, CB y) → (csW (x :: r)).length ≤ 8 * wL ((x :: r).map cTr)
  | x, [], h => by
    have h1 := (h x List.mem_cons_self).2.cnt
    simp only [csW, cW, cTr, List.map_cons, List.map_nil, wL_cons, wL_nil, w_node, List.length_cons]
    omega
  | x, y :: r, h => by
    have h1 := (h x List.mem_cons_self).2.cnt
    have ih := cs_cnt y r fun q hq => h q (List.mem_cons_of_mem _ hq)
    have e : (cTr x).w = 1 + (x.2.1.w) := by unfold cTr; rw [w_node, wL_cons, wL_nil]; omega
    rw [csW_cons, List.map_cons, wL_cons, e]
    simp only [cW, List.length_append, List.length_cons]
    omega
section
variable {k n : Int} {nm mk : List UInt8} {L : List CW} (hc : ∀ x ∈ L, CB x) (hw : wL (L.map cTr) ≤ 1048576) (hnm : nm.length ≤ 32) (hj : (Lib.join (L.map cT) bar).length ≤ 200 * wL (L.map cTr))
include hc hw hnm hj
theorem ev_mu_write : ∀ (m i : Nat), L.length = i + m → Ev (fun K => ptype_write_l0 K (.node k n nm mk (L.map cTr)) ((L.map cT).take i) (L.map cTr) (i : Int)) ([109, 117, 32] ++ nm ++ [32, 123, 32] ++ Lib.join (L.map cT) bar ++ [32, 125]) := by
  have hl := wL_len (L.map cTr)
  rw [List.length_map] at hl
  intro m
  induction m with
  | zero =>
    intro i hi
    have hj' : (Lib.join (L.map cT) [32, 124, 32]).length ≤ 200 * wL (L.map cTr) := hj
    rw [List.take_of_length_le (by simp; omega)]
    refine Ev.step (fun k => by rw [ptype_write_l0]) ?_
    refine Ev.dF (by simp; omega) (Ev.opt (catS_ok (by simp; omega)) (Ev.opt (catS_ok (by simp; omega)) (Ev.bind (a := Lib.join (L.map cT) bar) ⟨0, fun K _ => ?_⟩ (Ev.opt (catS_ok (by simp; omega)) (Ev.opt (catS_ok (by simp; omega)) Ev.pure)))))
    show (if _ then _ else _) = _
    rw [if_pos ⟨by omega, by simp; omega⟩]
  | succ m ih =>
    intro i hi
    have hlt : i < L.length := by omega
    have hlt1 : i < (L.map cTr).length := by simp; omega
    have hlt2 : i < (L.map cT).length := by simp; omega
    obtain ⟨e1, e2⟩ := hc L[i] (List.getElem_mem hlt)
    have hx := wL_mem (List.getElem_mem hlt1)
    have el := cT_len (hc L[i] (List.getElem_mem hlt))
    have e3 := ck_len e1
    have e4 := e2.len
    have g1 : (L.map cTr)[i] = .node 8 0 L[i].1 [] [L[i].2.1] := by rw [List.getElem_map]; rfl
    have g2 : (L.map cT)[i] = L[i].1 ++ [32, 111, 102, 32] ++ jn L[i].2.2 := by rw [List.getElem_map]; rfl
    rw [g1, w_node, wL_cons, wL_nil] at hx
    refine Ev.step (fun k => by rw [ptype_write_l0]) ?_
    refine Ev.dT (by omega) (Ev.opt (getI_lt hlt1) ?_)
    rw [g1]
    have w0 := e2.wr 0
    rw [need0, wp_f] at w0
    refine Ev.opt (catS_ok (by simp; omega)) (Ev.opt (a := L[i].2.1) rfl (Ev.bind w0 (Ev.opt (catS_ok (by simp; omega)) (Ev.opt (appL_ok (by simp; omega)) ?_))))
    rw [wrap_nat (by omega)]
    have := ih (i + 1) (by omega)
    rw [take_get' hlt2, g2] at this
    exact this
end
theorem consGo_parts : ∀ (l : List Tr) (s : List (List UInt8)), consGo (isT 8) s l = true → (∀ k ∈ l, isT 8 k = true ∧ nameOf k ∉ s) ∧ (l.map nameOf).Nodup
  | [], _, _ => ⟨fun _ h => by simp at h, List.nodup_nil⟩
  | k :: ks, s, h => by
    unfold consGo at h
    simp only [Bool.and_eq_true, Bool.not_eq_true', decide_eq_false_iff_not] at h
    obtain ⟨h1, h2, h3⟩ := h
    obtain ⟨i1, i2⟩ := consGo_parts ks _ h3
    refine ⟨fun x hx => ?_, ?_⟩
    · rcases List.mem_cons.1 hx with rfl | hx
      · exact ⟨h1, h2⟩
      · exact ⟨(i1 x hx).1, fun hm => (i1 x hx).2 (List.mem_append_left _ hm)⟩
    · rw [List.map_cons, List.nodup_cons]
      refine ⟨fun hm => ?_, i2⟩
      obtain ⟨x, hx, e⟩ := List.mem_map.1 hm
      exact (i1 x hx).2 (List.mem_append_right _ (by rw [e]; exact List.mem_singleton_self _))
theorem wp_nil (w : List Wd) {t : Tr} (h5 : kindOf t ≠ 5) (h6 : kindOf t ≠ 6) (lv : Int) : wp (need t lv) w = w := by
  have : need t lv = false := by unfold need; rw [decide_eq_false h5, decide_eq_false h6]; rfl
  rw [this]; rfl
theorem bk_atom {t : Tr} {w : List Wd} (h5 : kindOf t ≠ 5) (h6 : kindOf t ≠ 6) (hne : w ≠ []) (hg : ∀ x ∈ w, Gd x) (hl : (jn w).length ≤ 200 * t.w) (hcn : w.length ≤ 8 * t.w) (hw : ∀ level : Int, Ev (fun K => ptype_write K t level) (jn w)) (hp : Pa2 t w) : Bk t w :=
  ⟨hne, hg, hl, hcn, fun lv => by rw [wp_nil w h5 h6]; exact hw lv, by rw [wp_nil w h5 h6]; exact hp, by rw [wp_nil w h5 h6]; exact hp.to1, hp.to1.to0⟩
theorem bk_all : ∀ t : Tr, t.w ≤ 1048576 → (isT 1 t = true → ∃ w, Bk t w) ∧ (∀ y ∈ (match t with | .nil => [] | .node _ _ _ _ l => l), isT 1 y = true → ∃ w, Bk y w) := Tr.ind
  (fun _ => ⟨fun h => (by rw [isT_nil] at h; cases h), fun y hy => (by simp at hy)⟩)
  fun k n nm mk ks ih hw => by
    rw [w_node] at hw
    have kid : ∀ y ∈ ks, isT 1 y = true → ∃ w, Bk y w := fun y hy => (ih y hy (by have := wL_mem hy; omega)).1
    refine ⟨fun hi => ?_, kid⟩
    have zero : ∀ {m : Int}, (0 : Int) ≤ m → m ≤ 0 → m = 0 := fun h1 h2 => by omega
    rcases kind1 hi with rfl | rfl | rfl | rfl | rfl | rfl | rfl
    · rw [isT_row (r := (1, 1, [], [], 0, 0, [])) rfl] at hi
      simp only [bodyS, wordS_e, kidsS, Bool.and_eq_true, decide_eq_true_eq, List.length_eq_zero_iff] at hi
      obtain ⟨rfl, rfl, z1, z2, rfl⟩ := hi
      obtain rfl := zero z1 z2
      refine ⟨[(3, [105, 110, 116])], bk_atom (by decide) (by decide) (by simp) (fun x hx => .inr (by rw [List.mem_singleton] at hx; subst hx; decide)) (by rw [w_node]; simp [jn, jt]; omega) (by rw [w_node]; simp; omega) (fun level => ?_) pa_int⟩
      refine Ev.step (fun k => by rw [ptype_write]) ?_
      exact Ev.dF (by decide) (Ev.dF (by decide) (Ev.dT rfl Ev.pure))
    · rw [isT_row (r := (1, 2, [], [], 0, 0, [])) rfl] at hi
      simp only [bodyS, wordS_e, kidsS, Bool.and_eq_true, decide_eq_true_eq, List.length_eq_zero_iff] at hi
      obtain ⟨rfl, rfl, z1, z2, rfl⟩ := hi
      obtain rfl := zero z1 z2
      refine ⟨[(3, [98, 111, 111, 108])], bk_atom (by decide) (by decide) (by simp) (fun x hx => .inr (by rw [List.mem_singleton] at hx; subst hx; decide)) (by rw [w_node]; simp [jn, jt]; omega) (by rw [w_node]; simp; omega) (fun level => ?_) pa_bool⟩
      refine Ev.step (fun k => by rw [ptype_write]) ?_
      exact Ev.dF (by decide) (Ev.dF (by decide) (Ev.dF (by decide) (Ev.dT rfl Ev.pure)))
    · rw [isT_row (r := (1, 3, [], [], 0, 0, [])) rfl] at hi
      simp only [bodyS, wordS_e, kidsS, Bool.and_eq_true, decide_eq_true_eq, List.length_eq_zero_iff] at hi
      obtain ⟨rfl, rfl, z1, z2, rfl⟩ := hi
      obtain rfl := zero z1 z2
      refine ⟨[(3, [117, 110, 105, 116])], bk_atom (by decide) (by decide) (by simp) (fun x hx => .inr (by rw [List.mem_singleton] at hx; subst hx; decide)) (by rw [w_node]; simp [jn, jt]; omega) (by rw [w_node]; simp; omega) (fun level => ?_) pa_unit⟩
      refine Ev.step (fun k => by rw [ptype_write]) ?_
      exact Ev.dF (by decide) (Ev.dF (by decide) (Ev.dF (by decide) (Ev.dF (by decide) (Ev.dT rfl Ev.pure))))
    · rw [isT_row (r := (1, 4, [108], [], 0, 0, [])) rfl] at hi
      simp only [bodyS, wordS_e, wordS_l, kidsS, Bool.and_eq_true, decide_eq_true_eq, List.length_eq_zero_iff] at hi
      obtain ⟨hl, rfl, z1, z2, rfl⟩ := hi
      obtain rfl := zero z1 z2
      have hll := lg_len hl
      refine ⟨[(1, nm)], bk_atom (by simp [kindOf]) (by simp [kindOf]) (by simp) (fun x hx => .inl (by rw [List.mem_singleton] at hx; subst hx; exact ⟨rfl, .inl hl⟩)) (by rw [w_node]; simp [jn, jt]; omega) (by rw [w_node]; simp; omega) (fun level => ?_) (pa_name hl)⟩
      refine Ev.step (fun k => by rw [ptype_write]) ?_
      exact Ev.dF (by decide) (Ev.dF (by decide) (Ev.dF (by decide) (Ev.dF (by decide) (Ev.dF (by decide) (Ev.dF (by decide) (Ev.pure' (by simp [jn, jt])))))))
    · rw [isT_row (r := (1, 5, [], [], 0, 0, [116, 116])) rfl] at hi
      simp only [bodyS, wordS_e, Bool.and_eq_true, decide_eq_true_eq, kidsS_2 (a := 116) (b := 116) (c := 1) (d := 1) (by decide) (by decide) (by decide) (by decide) (by decide) (by decide) rfl rfl] at hi
      obtain ⟨rfl, rfl, z1, z2, hk⟩ := hi
      obtain rfl := zero z1 z2
      obtain ⟨x, y, rfl, hx, hy⟩ := k2S_form hk
      obtain ⟨wx, bx⟩ := kid x (by simp) hx
      obtain ⟨wy, bd⟩ := kid y (by simp) hy
      rw [wL_cons, wL_cons, wL_nil] at hw
      have lx := bx.len
      have ly := bd.len
      have px := par_len (need x 1) (jn wx)
      have w1 := bx.wr 1
      have w2 := bd.wr 0
      rw [need0, wp_f] at w2
      rw [jn_wp bx.ne] at w1
      have hj : jn (wp (need x 1) wx ++ (3, [45, 62]) :: wy) = par (need x 1) (jn wx) ++ [32, 45, 62, 32] ++ jn wy := by
        rw [jn_app (wp_ne bx.ne _), jn_wp bx.ne]
        show par (need x 1) (jn wx) ++ (32 :: ([45, 62] ++ jt wy)) = _
        rw [jt_jn bd.ne]; simp
      have hp0 := pa_arrow bx.p1 bd.p0
      have hne : wp (need x 1) wx ++ (3, [45, 62]) :: wy ≠ [] := by simp
      refine ⟨wp (need x 1) wx ++ (3, [45, 62]) :: wy, hne, fun z hz => ?_, ?_, ?_, fun level => ?_, hp0.paren, hp0.paren.to1, hp0⟩
      · rw [List.mem_append, List.mem_cons] at hz
        rcases hz with hz | rfl | hz
        · exact wp_gd bx.gd _ z hz
        · exact .inr (by decide)
        · exact bd.gd z hz
      · rw [hj, w_node, wL_cons, wL_cons, wL_nil]; simp; omega
      · have := bx.cnt; have := bd.cnt; have := wp_len (need x 1) wx; rw [w_node, wL_cons, wL_cons, wL_nil]; simp; omega
      · rw [jn_wp hne, hj]
        refine Ev.step (fun k => by rw [ptype_write]) ?_
        refine Ev.dT rfl (Ev.opt (a := x) rfl (Ev.opt (a := y) rfl (Ev.bind w1 (Ev.opt (catS_ok (by simp; omega)) (Ev.bind w2 (Ev.opt (catS_ok (by simp; omega)) (Ev.ret (Ev.cast (ev_paren _ _ (by simp; omega)) ?_))))))))
        simp [need, kindOf]
    · rw [isT_row (r := (1, 6, [], [], 0, 0, [116, 116])) rfl] at hi
      simp only [bodyS, wordS_e, Bool.and_eq_true, decide_eq_true_eq, kidsS_2 (a := 116) (b := 116) (c := 1) (d := 1) (by decide) (by decide) (by decide) (by decide) (by decide) (by decide) rfl rfl] at hi
      obtain ⟨rfl, rfl, z1, z2, hk⟩ := hi
      obtain rfl := zero z1 z2
      obtain ⟨x, y, rfl, hx, hy⟩ := k2S_form hk
      obtain ⟨wx, bx⟩ := kid x (by simp) hx
      obtain ⟨wy, bd⟩ := kid y (by simp) hy
      rw [wL_cons, wL_cons, wL_nil] at hw
      have lx := bx.len
      have ly := bd.len
      have px := par_len (need x 2) (jn wx)
      have py := par_len (need y 1) (jn wy)
      have w1 := bx.wr 2
      have w2 := bd.wr 1
      rw [jn_wp bd.ne] at w2
      rw [jn_wp bx.ne] at w1
      have hj : jn (wp (need x 2) wx ++ (3, [42]) :: wp (need y 1) wy) = par (need x 2) (jn wx) ++ [32, 42, 32] ++ par (need y 1) (jn wy) := by
        rw [jn_app (wp_ne bx.ne _), jn_wp bx.ne]
        show par (need x 2) (jn wx) ++ (32 :: ([42] ++ jt (wp (need y 1) wy))) = _
        rw [jt_jn (wp_ne bd.ne _), jn_wp bd.ne]; simp
      have hp1 := pa_pair bx.p2 bd.p1
      have hne : wp (need x 2) wx ++ (3, [42]) :: wp (need y 1) wy ≠ [] := by simp
      refine ⟨wp (need x 2) wx ++ (3, [42]) :: wp (need y 1) wy, hne, fun z hz => ?_, ?_, ?_, fun level => ?_, hp1.to0.paren, hp1, hp1.to0⟩
      · rw [List.mem_append, List.mem_cons] at hz
        rcases hz with hz | rfl | hz
        · exact wp_gd bx.gd _ z hz
        · exact .inr (by decide)
        · exact wp_gd bd.gd _ z hz
      · rw [hj, w_node, wL_cons, wL_cons, wL_nil]; simp; omega
      · have := bx.cnt; have := bd.cnt; have := wp_len (need x 2) wx; have := wp_len (need y 1) wy; rw [w_node, wL_cons, wL_cons, wL_nil]; simp; omega
      · rw [jn_wp hne, hj]
        refine Ev.step (fun k => by rw [ptype_write]) ?_
        refine Ev.dF (by decide) (Ev.dT rfl (Ev.opt (a := x) rfl (Ev.opt (a := y) rfl (Ev.bind w1 (Ev.opt (catS_ok (by simp; omega)) (Ev.bind w2 (Ev.opt (catS_ok (by simp; omega)) (Ev.ret (Ev.cast (ev_paren _ _ (by simp; omega)) ?_)))))))))
        simp [need, kindOf]
    · rw [isT_row (r := (1, 7, [110], [], 0, 0, [67])) rfl] at hi
      have e67 : kidsS isT [67] ks = (consGo (isT 8) [] ks && decide (0 < ks.length)) := rfl
      simp only [bodyS, wordS_n, wordS_e, Bool.and_eq_true, decide_eq_true_eq, e67] at hi
      obtain ⟨hn, rfl, z1, z2, hcg, hpos⟩ := hi
      obtain rfl := zero z1 z2
      have hnl := ck_len hn
      obtain ⟨hall, hnd⟩ := consGo_parts ks [] hcg
      have hcs : ∀ (l : List Tr), (∀ x ∈ l, x ∈ ks) → ∃ L : List CW, l = L.map cTr ∧ ∀ x ∈ L, CB x := by
        intro l
        induction l with
        | nil => intro _; exact ⟨[], rfl, fun x hx => by simp at hx⟩
        | cons x l ihl =>
          intro hm
          obtain ⟨L, hL, hB⟩ := ihl fun z hz => hm z (List.mem_cons_of_mem _ hz)
          have hxm := hm x List.mem_cons_self
          have h8 := (hall x hxm).1
          obtain ⟨kx, nx, nmx, mkx, ksx, rfl⟩ := node_of h8
          rw [isT_con] at h8
          simp only [bareS, Bool.true_or, Bool.true_and, Bool.false_or, Bool.and_eq_true, decide_eq_true_eq] at h8
          obtain ⟨rfl, ⟨rfl, rfl⟩, hck, hk1⟩ := h8
          obtain ⟨y, rfl, hy⟩ := k1S_form hk1
          obtain ⟨w, bd⟩ := (ih _ hxm (by have := wL_mem hxm; omega)).2 y (by simp) hy
          refine ⟨(nmx, y, w) :: L, by rw [List.map_cons, hL]; rfl, fun z hz => ?_⟩
          rcases List.mem_cons.1 hz with rfl | hz
          · exact ⟨hck, bd⟩
          · exact hB z hz
      obtain ⟨L, rfl, hB⟩ := hcs ks fun x hx => hx
      cases L with
      | nil => simp at hpos
      | cons c r =>
        have hlen := cs_len c r hB
        have hjj := jn_join c r hB
        have hjn : jn ((3, [109, 117]) :: (1, nm) :: (3, [123]) :: (csW (c :: r) ++ [(3, [125])])) = [109, 117, 32] ++ nm ++ [32, 123, 32] ++ Lib.join ((c :: r).map cT) bar ++ [32, 125] := by
          show [109, 117] ++ (32 :: (nm ++ (32 :: ([123] ++ jt (csW (c :: r) ++ [(3, [125])]))))) = _
          rw [jt_app, jt_jn (csW_ne c r), hjj]
          simp [jt]
        refine ⟨(3, [109, 117]) :: (1, nm) :: (3, [123]) :: (csW (c :: r) ++ [(3, [125])]), bk_atom (by simp [kindOf]) (by simp [kindOf]) (by simp) (fun z hz => ?_) ?_ ?_ (fun level => ?_) (pa_mu hn (cs_consW c r hB) hnd)⟩
        · simp only [List.mem_cons, List.mem_append, List.not_mem_nil, or_false] at hz
          rcases hz with rfl | rfl | rfl | hz | rfl
          · exact .inr (by decide)
          · exact .inl ⟨rfl, .inr hn⟩
          · exact .inr (by decide)
          · exact cs_gd _ hB z hz
          · exact .inr (by decide)
        · rw [hjn, w_node, ← hjj]; simp only [List.length_append, List.length_cons, List.length_nil]; omega
        · have := cs_cnt c r hB; rw [w_node]; simp only [List.length_append, List.length_cons, List.length_nil]; omega
        · rw [hjn]
          refine Ev.step (fun k => by rw [ptype_write]) ?_
          refine Ev.dF (by decide) (Ev.dF (by decide) (Ev.dF (by decide) (Ev.dF (by decide) (Ev.dF (by decide) (Ev.dT rfl ?_)))))
          exact ev_mu_write hB (by omega) hnl (by rw [← hjj]; exact hlen) (c :: r).length 0 (by omega)
end Go.Proofs.YtpplkbcfidpbcaaGreatDoor

/- Expressions that have a form: their words, written and parsed. -/
namespace Go.Proofs.YtpplkbcfidpbcaaGreatDoor
open Go Go.Am Go.Sx
/-- how long a tree's text may be -/
def tl : Tr → Nat
  | .nil => 0
  | .node k _ nm mk ks => if k ≤ 8 then 200 * (1 + wL ks) else 30 + (nm.length + mk.length) + go ks
where go : List Tr → Nat
  | [] => 0
  | x :: r => tl x + go r
abbrev tlL := tl.go
/-- how many words a tree may have -/
def wc : Tr → Nat
  | .nil => 0
  | .node k _ _ _ ks => if k ≤ 8 then 8 * (1 + wL ks) else (if k ≤ 23 then 2 else 8) + go ks
where go : List Tr → Nat
  | [] => 0
  | x :: r => wc x + go r
abbrev wcL := wc.go
theorem tlL_nil : tlL [] = 0 := by simp [tl.go]
theorem tlL_cons (x : Tr) (r : List Tr) : tlL (x :: r) = tl x + tlL r := by simp [tl.go]
theorem wcL_nil : wcL [] = 0 := by simp [wc.go]
theorem wcL_cons (x : Tr) (r : List Tr) : wcL (x :: r) = wc x + wcL r := by simp [wc.go]
theorem tl_node {k n : Int} {nm mk : List UInt8} {ks : List Tr} (h : ¬ k ≤ 8) : tl (.node k n nm mk ks) = 30 + (nm.length + mk.length) + tlL ks := by rw [tl, if_neg h]
theorem wc_leaf {k n : Int} {nm mk : List UInt8} {ks : List Tr} (h : ¬ k ≤ 8) (h2 : k ≤ 23) : wc (.node k n nm mk ks) = 2 + wcL ks := by rw [wc, if_neg h, if_pos h2]
theorem wc_node {k n : Int} {nm mk : List UInt8} {ks : List Tr} (h : ¬ k ≤ 8) (h2 : ¬ k ≤ 23) : wc (.node k n nm mk ks) = 8 + wcL ks := by rw [wc, if_neg h, if_neg h2]
theorem ty_kind {t : Tr} (h : isT 1 t = true) : ∃ k n nm mk ks, t = .node k n nm mk ks ∧ k ≤ 8 := by
  obtain ⟨k, n, nm, mk, ks, rfl⟩ := node_of h
  refine ⟨k, n, nm, mk, ks, rfl, ?_⟩
  rcases kind1 h with rfl | rfl | rfl | rfl | rfl | rfl | rfl <;> decide
theorem tl_ty {t : Tr} (h : isT 1 t = true) : tl t = 200 * t.w := by
  obtain ⟨k, n, nm, mk, ks, rfl, hk⟩ := ty_kind h
  rw [tl, if_pos hk, w_node]
theorem wc_ty {t : Tr} (h : isT 1 t = true) : wc t = 8 * t.w := by
  obtain ⟨k, n, nm, mk, ks, rfl, hk⟩ := ty_kind h
  rw [wc, if_pos hk, w_node]
/-- the words of expressions -/
theorem tk_e {x : Wd} (h : x ∈ ([(3, [102, 110]), (3, [108, 101, 116]), (3, [105, 110]), (3, [101, 110, 100]), (3, [105, 102]), (3, [116, 104, 101, 110]), (3, [101, 108, 115, 101]), (3, [99, 97, 115, 101]), (3, [111, 102]), (3, [102, 111, 108, 100]), (3, [116, 111]), (3, [116, 114, 117, 101]), (3, [102, 97, 108, 115, 101])] : List Wd)) : Tk x := by
  simp only [List.mem_cons, List.not_mem_nil, or_false] at h
  rcases h with rfl | rfl | rfl | rfl | rfl | rfl | rfl | rfl | rfl | rfl | rfl | rfl | rfl <;> exact tk_key (by decide) (by decide) (by decide) (by decide)
theorem tk_s {x : Wd} (h : x ∈ ([(3, [40]), (3, [41]), (3, [58]), (3, [61, 62]), (3, [61]), (3, [44]), (3, [43]), (3, [45]), (3, [42]), (3, [60]), (3, [124]), (3, [35, 49]), (3, [35, 50])] : List Wd)) : Tk x := by
  have sg : ∀ {b : UInt8} {w : List UInt8}, (b.toNat < 127 ∧ 33 ≤ b.toNat ∧ b.toNat ≠ 126 ∧ cls ((b.toNat : Nat) : Int) = 0) → (∀ c ∈ w, 32 ≤ c.toNat ∧ c.toNat < 127) → w.length ≤ 10 →
      (fnd sgns (b :: w) = (3, b :: w, 0, 0, (((b :: w).length : Nat) : Int), true) ∧ List.isPrefixOf [40, 42] (b :: w) = false) →
      (∀ t, fnd sgns (b :: w ++ 32 :: t) = (3, b :: w, 0, 0, (((b :: w).length : Nat) : Int), true) ∧ List.isPrefixOf [40, 42] (b :: w ++ 32 :: t) = false) → Tk (3, b :: w) := fun h1 h2 h3 h4 h5 =>
    tk_sign h1 h2 h3 fun tail ht => by
      rcases ht with rfl | ⟨t, rfl⟩
      · rw [List.append_nil]; exact h4
      · exact h5 t
  simp only [List.mem_cons, List.not_mem_nil, or_false] at h
  rcases h with rfl | rfl | rfl | rfl | rfl | rfl | rfl | rfl | rfl | rfl | rfl | rfl | rfl <;> exact sg (by decide) (by decide) (by decide) ⟨rfl, rfl⟩ fun t => ⟨rfl, rfl⟩
theorem tk_ck {s : List UInt8} (h : ckS s = true) : Tk (1, s) := tk_name (ck_one h)
/-- an expression's words: they are written, and parsed -/
structure Bx (t : Tr) (w : List Wd) : Prop where
  ne : w ≠ []
  tk : ∀ x ∈ w, Tk x
  len : (jn w).length + 8 ≤ tl t
  cnt : w.length + (if lvE t = 5 then 0 else 2) ≤ wc t
  pw : PW t (jn w)
  h41 : kW w [41] = false
  st : 0 < lvE t → sW w = true
  a0 : A0 t w
  a1 : 1 ≤ lvE t → A1 t w
  a2 : 2 ≤ lvE t → A2 t w
  a3 : 3 ≤ lvE t → A3 t w
  a4 : 4 ≤ lvE t → A4 t w
  a5 : 5 ≤ lvE t → A5 t w
/-- its words where a rule must stand -/
def wr (lv : Int) (t : Tr) (w : List Wd) : List Wd := wp (decide (lvE t < lv)) w
section
variable {t : Tr} {w : List Wd} (h : Bx t w)
include h
theorem Bx.w_ne (lv : Int) : wr lv t w ≠ [] := wp_ne h.ne _
theorem Bx.w_jn (lv : Int) : jn (wr lv t w) = par (decide (lvE t < lv)) (jn w) := jn_wp h.ne _
theorem Bx.w_tk (lv : Int) : ∀ x ∈ wr lv t w, Tk x := by
  intro x hx
  unfold wr at hx
  cases hb : decide (lvE t < lv) with
  | false => rw [hb] at hx; exact h.tk x hx
  | true =>
    rw [hb, wp_t] at hx
    simp only [List.mem_cons, List.mem_append, List.not_mem_nil, or_false] at hx
    rcases hx with rfl | hx | rfl
    · exact tk_s (by decide)
    · exact h.tk x hx
    · exact tk_s (by decide)
theorem Bx.w_cnt {lv : Int} (hl : lv ≤ 5) : (wr lv t w).length ≤ wc t := by
  have := h.cnt
  unfold wr
  by_cases hb : lvE t < lv
  · rw [decide_eq_true hb]
    have := wp_len true w
    rw [if_neg (by omega)] at *
    omega
  · rw [decide_eq_false hb, wp_f]; omega
theorem Bx.w_st {lv : Int} (hl : 0 < lv) : sW (wr lv t w) = true := by
  unfold wr
  by_cases hb : lvE t < lv
  · rw [decide_eq_true hb, wp_t, sW3]; decide
  · rw [decide_eq_false hb, wp_f]; exact h.st (by omega)
theorem Bx.par5 : A5 t (wp true w) := h.a0.paren h.ne h.h41
theorem Bx.w5 : A5 t (wr 5 t w) := by
  unfold wr
  by_cases hb : lvE t < 5
  · rw [decide_eq_true hb]; exact h.par5
  · rw [decide_eq_false hb]; exact h.a5 (by omega)
theorem Bx.w4 : A4 t (wr 4 t w) := by
  unfold wr
  by_cases hb : lvE t < 4
  · rw [decide_eq_true hb]; exact A5.to4 (by simp [wp]) h.par5
  · rw [decide_eq_false hb]; exact h.a4 (by omega)
theorem Bx.w3 : A3 t (wr 3 t w) := by
  unfold wr
  by_cases hb : lvE t < 3
  · rw [decide_eq_true hb]; exact A4.to3 (by simp [wp]) (A5.to4 (by simp [wp]) h.par5)
  · rw [decide_eq_false hb]; exact h.a3 (by omega)
theorem Bx.w2 : A2 t (wr 2 t w) := by
  unfold wr
  by_cases hb : lvE t < 2
  · rw [decide_eq_true hb]; exact A3.to2 (by simp [wp]) (A4.to3 (by simp [wp]) (A5.to4 (by simp [wp]) h.par5))
  · rw [decide_eq_false hb]; exact h.a2 (by omega)
end
/-! ### out of a rule's answer all looser ones -/
section
variable {t : Tr} {w : List Wd} (ne : w ≠ []) (tk : ∀ x ∈ w, Tk x) (len : (jn w).length + 8 ≤ tl t) (pw : PW t (jn w)) (st : sW w = true)
include ne tk len pw st
theorem st41 : kW w [41] = false := by
  have := tk; have := len; have := pw; have := ne
  exact sW_key st (by decide)
theorem bx5 (hl : lvE t = 5) (cnt : w.length ≤ wc t) (h : A5 t w) : Bx t w := by
  have h4 := A5.to4 ne h
  have h3 := A4.to3 ne h4
  have h2 := A3.to2 ne h3
  have h1 := A2.to1 ne h2
  exact ⟨ne, tk, len, by rw [if_pos hl]; omega, pw, st41 ne tk len pw st, fun _ => st, A1.to0 ne h1 st, fun _ => h1, fun _ => h2, fun _ => h3, fun _ => h4, fun _ => h⟩
theorem bx4 (hl : lvE t = 4) (cnt : w.length + 2 ≤ wc t) (h4 : A4 t w) : Bx t w := by
  have h3 := A4.to3 ne h4
  have h2 := A3.to2 ne h3
  have h1 := A2.to1 ne h2
  exact ⟨ne, tk, len, by rw [if_neg (by omega)]; omega, pw, st41 ne tk len pw st, fun _ => st, A1.to0 ne h1 st, fun _ => h1, fun _ => h2, fun _ => h3, fun _ => h4, fun hh => by omega⟩
theorem bx3 (hl : lvE t = 3) (cnt : w.length + 2 ≤ wc t) (h3 : A3 t w) : Bx t w := by
  have h2 := A3.to2 ne h3
  have h1 := A2.to1 ne h2
  exact ⟨ne, tk, len, by rw [if_neg (by omega)]; omega, pw, st41 ne tk len pw st, fun _ => st, A1.to0 ne h1 st, fun _ => h1, fun _ => h2, fun _ => h3, fun hh => by omega, fun hh => by omega⟩
theorem bx2 (hl : lvE t = 2) (cnt : w.length + 2 ≤ wc t) (h2 : A2 t w) : Bx t w := by
  have h1 := A2.to1 ne h2
  exact ⟨ne, tk, len, by rw [if_neg (by omega)]; omega, pw, st41 ne tk len pw st, fun _ => st, A1.to0 ne h1 st, fun _ => h1, fun _ => h2, fun hh => by omega, fun hh => by omega, fun hh => by omega⟩
theorem bx1 (hl : lvE t = 1) (cnt : w.length + 2 ≤ wc t) (h1 : A1 t w) : Bx t w :=
  ⟨ne, tk, len, by rw [if_neg (by omega)]; omega, pw, st41 ne tk len pw st, fun _ => st, A1.to0 ne h1 st, fun _ => h1, fun hh => by omega, fun hh => by omega, fun hh => by omega, fun hh => by omega⟩
end
theorem bx0 {t : Tr} {w : List Wd} (ne : w ≠ []) (tk : ∀ x ∈ w, Tk x) (len : (jn w).length + 8 ≤ tl t) (pw : PW t (jn w)) (h41 : kW w [41] = false) (hl : lvE t = 0) (cnt : w.length + 2 ≤ wc t) (h0 : A0 t w) : Bx t w :=
  ⟨ne, tk, len, by rw [if_neg (by omega)]; omega, pw, h41, fun hh => by omega, h0, fun hh => by omega, fun hh => by omega, fun hh => by omega, fun hh => by omega, fun hh => by omega⟩
theorem PW.cast {t : Tr} {v v' : List UInt8} (h : PW t v) (e : v = v') : PW t v' := e ▸ h
theorem jt_cons (x : Wd) (r : List Wd) : jt (x :: r) = 32 :: (x.2 ++ jt r) := rfl
theorem jn_cons (x : Wd) (r : List Wd) : jn (x :: r) = x.2 ++ jt r := rfl
/-- a type's words within an expression -/
theorem ty_words {y : Tr} (hg : Good y) (hw : y.w ≤ 1048576) (hs : sizeT y ≤ 8192) (hd : deepT y ≤ 60) (hi : isT 1 y = true) : ∃ w, Bk y w ∧ Ev (fun K => pexpr_written K y) (jn w) := by
  obtain ⟨w, b⟩ := (bk_all y hw).1 hi
  refine ⟨w, b, ?_⟩
  have hf : Fine y := ⟨by omega, fun _ => hg⟩
  have h0 : chk 1 y = 0 := by rw [chk_small (good_full y hg) hs hd, if_pos hi]
  have v0 := b.wr 0
  rw [need0, wp_f] at v0
  have : Ev (fun K => ptype_Write K y) (jn w, 0) := Ev.congr (f := fun K => _) (Ev.bind (ev_Type hf) (Ev.nF h0 (Ev.bind v0 (Ev.pure' rfl)))) (fun _ => rfl)
  refine Ev.congr (f := fun K => _) ?_ (fun k => by rw [pexpr_written])
  exact Ev.bind this Ev.pure
end Go.Proofs.YtpplkbcfidpbcaaGreatDoor

/- Every expression that has a form has words. -/
namespace Go.Proofs.YtpplkbcfidpbcaaGreatDoor
open Go Go.Am Go.Sx
def toA (a : AX) : AT := (a.1, a.2.1, a.2.2.1, jn a.2.2.2)
/-- an arm whose expression has words -/
def XB (a : AX) : Prop := ckS a.1 = true ∧ ckS a.2.1 = true ∧ Bx a.2.2.1 a.2.2.2
theorem jn_xW {a : AX} (h : a.2.2.2 ≠ []) : jn (xW a) = aTx (toA a) := by
  show a.1 ++ 32 :: (a.2.1 ++ 32 :: ([61, 62] ++ jt a.2.2.2)) = a.1 ++ [32] ++ a.2.1 ++ [32, 61, 62, 32] ++ jn a.2.2.2
  rw [jt_jn h]; simp
theorem jn_xs : ∀ r : List AX, r ≠ [] → (∀ a ∈ r, XB a) → jn (xsW r) = armsS (r.map toA)
  | [], h, _ => absurd rfl h
  | [a], _, h => by
    obtain ⟨_, _, hb⟩ := h a List.mem_cons_self
    show jn (xW a ++ [(3, [101, 110, 100])]) = Lib.join [aTx (toA a)] barA ++ [32, 101, 110, 100]
    rw [jn_app (by simp [xW]), jn_xW hb.ne, Lib.join_one]; rfl
  | a :: b :: r, _, h => by
    obtain ⟨_, _, hb⟩ := h a List.mem_cons_self
    have ih := jn_xs (b :: r) (by simp) fun x hx => h x (List.mem_cons_of_mem _ hx)
    have hne : xsW (b :: r) ≠ [] := by cases r <;> simp [xsW, xW]
    show jn (xW a ++ (3, [124]) :: xsW (b :: r)) = armsS (toA a :: toA b :: r.map toA)
    rw [jn_app (by simp [xW]), jn_xW hb.ne, jt_cons, jt_jn hne, ih]
    unfold armsS
    simp [Lib.join_cons, Lib.joinTail]
theorem xs_ne (r : List AX) : xsW r ≠ [] := by
  match r with
  | [] => simp [xsW]
  | [a] => simp [xsW, xW]
  | a :: b :: r => simp [xsW, xW]
theorem xs_tk : ∀ r : List AX, (∀ a ∈ r, XB a) → ∀ x ∈ xsW r, Tk x
  | [], _, x, hx => by simp only [xsW, List.mem_singleton] at hx; subst hx; exact tk_e (by decide)
  | [a], h, x, hx => by
    obtain ⟨h1, h2, hb⟩ := h a List.mem_cons_self
    simp only [xsW, xW, List.mem_append, List.mem_cons, List.not_mem_nil, or_false] at hx
    rcases hx with (rfl | rfl | rfl | hx) | rfl
    · exact tk_ck h1
    · exact tk_ck h2
    · exact tk_s (by decide)
    · exact hb.tk x hx
    · exact tk_e (by decide)
  | a :: b :: r, h, x, hx => by
    obtain ⟨h1, h2, hb⟩ := h a List.mem_cons_self
    have e : xsW (a :: b :: r) = xW a ++ (3, [124]) :: xsW (b :: r) := rfl
    rw [e] at hx
    simp only [xW, List.mem_append, List.mem_cons] at hx
    rcases hx with (rfl | rfl | rfl | hx) | rfl | hx
    · exact tk_ck h1
    · exact tk_ck h2
    · exact tk_s (by decide)
    · exact hb.tk x hx
    · exact tk_s (by decide)
    · exact xs_tk (b :: r) (fun x hx => h x (List.mem_cons_of_mem _ hx)) x hx
theorem tl_arm (a : AX) : tl (xTr a) = 30 + (a.1.length + a.2.1.length) + tl a.2.2.1 := by unfold xTr; rw [tl_node (by decide), tlL_cons, tlL_nil]; omega
theorem wc_arm (a : AX) : wc (xTr a) = 8 + wc a.2.2.1 := by unfold xTr; rw [wc_node (by decide) (by decide), wcL_cons, wcL_nil]; omega
theorem xs_len : ∀ r : List AX, r ≠ [] → (∀ a ∈ r, XB a) → (Lib.join ((r.map toA).map aTx) barA).length + 4 ≤ tlL (r.map xTr) ∧ (xsW r).length ≤ wcL (r.map xTr)
  | [], h, _ => absurd rfl h
  | [a], _, h => by
    obtain ⟨_, _, hb⟩ := h a List.mem_cons_self
    have h1 := hb.len
    have h2 := hb.cnt
    rw [List.map_cons, List.map_cons, List.map_nil, List.map_nil, Lib.join_one, List.map_cons, List.map_nil, tlL_cons, tlL_nil, wcL_cons, wcL_nil, tl_arm, wc_arm]
    simp only [aTx, toA, xsW, xW, List.length_append, List.length_cons, List.length_nil]
    omega
  | a :: b :: r, _, h => by
    obtain ⟨_, _, hb⟩ := h a List.mem_cons_self
    have h1 := hb.len
    have h2 := hb.cnt
    obtain ⟨i1, i2⟩ := xs_len (b :: r) (by simp) fun x hx => h x (List.mem_cons_of_mem _ hx)
    have e : xsW (a :: b :: r) = xW a ++ (3, [124]) :: xsW (b :: r) := rfl
    have e2 : Lib.join (((a :: b :: r).map toA).map aTx) barA = aTx (toA a) ++ barA ++ Lib.join (((b :: r).map toA).map aTx) barA := by simp [Lib.join_cons, Lib.joinTail]
    rw [e, e2, show (a :: b :: r).map xTr = xTr a :: (b :: r).map xTr from rfl, tlL_cons, wcL_cons, tl_arm, wc_arm]
    simp only [aTx, toA, xW, List.length_append, List.length_cons, List.length_nil] at *
    omega
theorem arms_x : ∀ r : List Tr, (∀ y ∈ r, isT 9 y = true) → (∀ y ∈ r, ∀ e ∈ (match y with | .nil => [] | .node _ _ _ _ l => l), isT 2 e = true → ∃ w, Bx e w) → ∃ L : List AX, r = L.map xTr ∧ ∀ a ∈ L, XB a
  | [], _, _ => ⟨[], rfl, fun a h => by cases h⟩
  | y :: r, h, hk => by
    obtain ⟨L, rfl, hL⟩ := arms_x r (fun x hx => h x (List.mem_cons_of_mem _ hx)) (fun x hx => hk x (List.mem_cons_of_mem _ hx))
    obtain ⟨c, x, e, rfl, hc, hx, he⟩ := arm_of (h _ List.mem_cons_self)
    obtain ⟨w, hw⟩ := hk _ List.mem_cons_self e (by simp) he
    refine ⟨(c, x, e, w) :: L, rfl, fun a ha => ?_⟩
    rcases List.mem_cons.1 ha with rfl | ha
    · exact ⟨hc, hx, hw⟩
    · exact hL a ha
theorem tlL_mem : ∀ {l : List Tr} {x : Tr}, x ∈ l → tl x ≤ tlL l
  | y :: l, x, h => by
    rw [tlL_cons]
    rcases List.mem_cons.1 h with rfl | hx
    · omega
    · have := tlL_mem hx; omega
theorem sW_pre {a b : List Wd} (h : a ≠ []) (hs : sW a = true) : sW (a ++ b) = true := by rw [sW_app h]; exact hs
theorem gd_tk {t : Tr} {w : List Wd} (b : Bk t w) : ∀ x ∈ w, Tk x := fun x hx => (b.gd x hx).tk
theorem mem_app {a b : List Wd} (h1 : ∀ x ∈ a, Tk x) (h2 : ∀ x ∈ b, Tk x) : ∀ x ∈ a ++ b, Tk x := fun x hx => (List.mem_append.1 hx).elim (h1 x) (h2 x)
theorem mem_cons {a : Wd} {b : List Wd} (h1 : Tk a) (h2 : ∀ x ∈ b, Tk x) : ∀ x ∈ a :: b, Tk x := fun x hx => (List.mem_cons.1 hx).elim (fun e => e ▸ h1) (h2 x)
theorem mem_one {a : Wd} (h1 : Tk a) : ∀ x ∈ [a], Tk x := fun _ hx => (List.mem_singleton.1 hx) ▸ h1
theorem bx_all : ∀ t : Tr, Good t → t.w ≤ 1048576 → sizeT t ≤ 8192 → deepT t ≤ 60 → tl t ≤ 109951162777 → (isT 2 t = true → ∃ w, Bx t w) ∧ (∀ y ∈ (match t with | .nil => [] | .node _ _ _ _ l => l), isT 2 y = true → tl y ≤ 109951162777 → ∃ w, Bx y w) := Tr.ind
  (fun h => by cases h)
  fun k n nm mk ks ih h hw hs hd hz => by
    cases h with
    | mk g1 g2 g3 g4 =>
      rw [w_node] at hw
      rw [sizeT_node] at hs
      rw [deepT_node] at hd
      have sub : ∀ y ∈ ks, Good y ∧ y.w ≤ 1048576 ∧ sizeT y ≤ 8192 ∧ deepT y ≤ 60 := fun y hy => ⟨g4 y hy, by have := wL_mem hy; omega, by have := sizeL_mem hy; omega, by have := deepL_mem (d := 0) hy; omega⟩
      have kid : ∀ y ∈ ks, isT 2 y = true → tl y ≤ 109951162777 → ∃ w, Bx y w := fun y hy hi hz => by
        obtain ⟨a, b, c, d⟩ := sub y hy
        exact (ih y hy a b c d hz).1 hi
      have kid2 : ∀ y ∈ ks, tl y ≤ 109951162777 → ∀ e ∈ (match y with | .nil => [] | .node _ _ _ _ l => l), isT 2 e = true → tl e ≤ 109951162777 → ∃ w, Bx e w := fun y hy hz => by
        obtain ⟨a, b, c, d⟩ := sub y hy
        exact (ih y hy a b c d hz).2
      have typ : ∀ y ∈ ks, isT 1 y = true → ∃ w, Bk y w ∧ Ev (fun K => pexpr_written K y) (jn w) := fun y hy hi => by
        obtain ⟨a, b, c, d⟩ := sub y hy
        exact ty_words a b c d hi
      refine ⟨fun hi => ?_, kid⟩
      have form := ex_of hi
      clear hi ih g1 g2 g3 g4
      cases form with
      | int n h =>
        have hl := numS_len (n := n) (by omega)
        exact ⟨[(2, numS n)], bx5 (by simp) (mem_one (tk_num h)) (by rw [tl_node (by decide), tlL_nil]; simp [jn, jt]; omega) (pw_int (by omega) |>.cast (by simp [jn, jt])) (by rw [sW2, nOf_num, decide_eq_true h.1, decide_eq_true h.2]; rfl) rfl (by rw [wc_leaf (by decide) (by decide), wcL_nil]; simp) (a_int h)⟩
      | bool n h =>
        have hb : boolS n = [116, 114, 117, 101] ∨ boolS n = [102, 97, 108, 115, 101] := by unfold boolS; split <;> simp
        refine ⟨[(3, boolS n)], bx5 (by simp) (mem_one ?_) ?_ (pw_bool.cast (by simp [jn, jt])) ?_ rfl (by rw [wc_leaf (by decide) (by decide), wcL_nil]; simp) (a_bool h)⟩
        · rcases hb with e | e <;> rw [e] <;> exact tk_e (by decide)
        · rw [tl_node (by decide), tlL_nil]; rcases hb with e | e <;> rw [e] <;> decide
        · rw [sW3]; rcases hb with e | e <;> rw [e] <;> decide
      | unit => exact ⟨[(3, [40]), (3, [41])], bx5 (by simp) (mem_cons (tk_s (by decide)) (mem_one (tk_s (by decide)))) (by rw [tl_node (by decide), tlL_nil]; decide) (pw_unit.cast rfl) (by rw [sW3]; decide) rfl (by rw [wc_leaf (by decide) (by decide), wcL_nil]; simp) a_unit⟩
      | var s h =>
        have hl := lg_len h
        exact ⟨[(1, nm)], bx5 (by simp) (mem_one (tk_name (lg_parts h))) (by rw [tl_node (by decide), tlL_nil]; simp [jn, jt]; omega) (pw_var.cast (by simp [jn, jt])) (by rw [sW1, h]) rfl (by rw [wc_leaf (by decide) (by decide), wcL_nil]; simp) (a_var h)⟩
      | lam s t b h ht hb =>
        obtain ⟨wt, t1, t2⟩ := typ t (by simp) ht
        rw [tl_node (by decide), tlL_cons, tlL_cons, tlL_nil, tl_ty ht] at hz
        obtain ⟨wb, hb⟩ := kid b (by simp) hb (by omega)
        have l1 := hb.len; have l2 := t1.len; have c1 := hb.cnt; have c2 := t1.cnt
        have hn := ck_len h
        have ej : jn ((3, [102, 110]) :: (3, [40]) :: (1, nm) :: (3, [58]) :: (wt ++ (3, [41]) :: (3, [61, 62]) :: wb)) = [102, 110, 32, 40, 32] ++ nm ++ [32, 58, 32] ++ jn wt ++ [32, 41, 32, 61, 62, 32] ++ jn wb := by
          rw [jn_cons, jt_cons, jt_cons, jt_cons, jt_app, jt_jn t1.ne, jt_cons, jt_cons, jt_jn hb.ne]; simp
        refine ⟨_, bx0 (by simp) ?_ ?_ ((pw_lam t2 hb.pw (by omega) (by omega) (by omega)).cast ej.symm) (by rw [kW3]; decide) rfl ?_ (a_lam h t1.p0 hb.a0)⟩
        · exact mem_cons (tk_e (by decide)) (mem_cons (tk_s (by decide)) (mem_cons (tk_ck h) (mem_cons (tk_s (by decide)) (mem_app (gd_tk t1) (mem_cons (tk_s (by decide)) (mem_cons (tk_s (by decide)) hb.tk))))))
        · rw [ej, tl_node (by decide), tlL_cons, tlL_cons, tlL_nil, tl_ty ht]; simp; omega
        · rw [wc_node (by decide) (by decide), wcL_cons, wcL_cons, wcL_nil, wc_ty ht]; simp; omega
      | app a b ha hb =>
        rw [tl_node (by decide), tlL_cons, tlL_cons, tlL_nil] at hz
        obtain ⟨wa, ha⟩ := kid a (by simp) ha (by omega)
        obtain ⟨wb, hb⟩ := kid b (by simp) hb (by omega)
        have l1 := ha.len; have l2 := hb.len; have c1 := ha.w_cnt (lv := 4) (by decide); have c2 := hb.w_cnt (lv := 5) (by decide)
        have pa := par_len (decide (lvE a < 4)) (jn wa)
        have pb := par_len (decide (lvE b < 5)) (jn wb)
        have ej : jn (wr 4 a wa ++ wr 5 b wb) = par (decide (lvE a < 4)) (jn wa) ++ [32] ++ par (decide (lvE b < 5)) (jn wb) := by
          rw [jn_app (ha.w_ne 4), jt_jn (hb.w_ne 5), ha.w_jn, hb.w_jn]; simp
        refine ⟨_, bx4 (by simp [ha.w_ne 4]) (mem_app (ha.w_tk 4) (hb.w_tk 5)) ?_ ((pw_app ha.pw hb.pw (by omega) (by omega)).cast ej.symm) (sW_pre (ha.w_ne 4) (ha.w_st (by decide))) rfl ?_ (a_app ha.w4 hb.w5 (hb.w_ne 5) (hb.w_st (by decide)))⟩
        · rw [ej, tl_node (by decide), tlL_cons, tlL_cons, tlL_nil]; simp; omega
        · rw [wc_node (by decide) (by decide), wcL_cons, wcL_cons, wcL_nil]; simp; omega
      | pair a b ha hb =>
        rw [tl_node (by decide), tlL_cons, tlL_cons, tlL_nil] at hz
        obtain ⟨wa, ha⟩ := kid a (by simp) ha (by omega)
        obtain ⟨wb, hb⟩ := kid b (by simp) hb (by omega)
        have l1 := ha.len; have l2 := hb.len; have c1 := ha.cnt; have c2 := hb.cnt
        have ej : jn ((3, [40]) :: (wa ++ (3, [44]) :: (wb ++ [(3, [41])]))) = [40, 32] ++ jn wa ++ [32, 44, 32] ++ jn wb ++ [32, 41] := by
          rw [jn_cons, jt_app, jt_jn ha.ne, jt_cons, jt_app, jt_jn hb.ne]; simp [jt]
        refine ⟨_, bx5 (by simp) ?_ ?_ ((pw_pair ha.pw hb.pw (by omega) (by omega)).cast ej.symm) (by rw [sW3]; decide) rfl ?_ (a_pair ha.ne ha.h41 ha.a0 hb.a0)⟩
        · exact mem_cons (tk_s (by decide)) (mem_app ha.tk (mem_cons (tk_s (by decide)) (mem_app hb.tk (mem_one (tk_s (by decide))))))
        · rw [ej, tl_node (by decide), tlL_cons, tlL_cons, tlL_nil]; simp; omega
        · rw [wc_node (by decide) (by decide), wcL_cons, wcL_cons, wcL_nil]; simp; omega
      | fst a ha =>
        rw [tl_node (by decide), tlL_cons, tlL_nil] at hz
        obtain ⟨wa, ha⟩ := kid a (by simp) ha (by omega)
        have l1 := ha.len; have c1 := ha.w_cnt (lv := 5) (by decide)
        have pa := par_len (decide (lvE a < 5)) (jn wa)
        have ej : jn ((3, [35, 49]) :: wr 5 a wa) = [35, 49, 32] ++ par (decide (lvE a < 5)) (jn wa) := by
          rw [jn_cons, jt_jn (ha.w_ne 5), ha.w_jn]; simp
        refine ⟨_, bx5 (by simp) (mem_cons (tk_s (by decide)) (ha.w_tk 5)) ?_ ((pw_fst ha.pw (by omega)).cast ej.symm) (by rw [sW3]; decide) rfl ?_ (a_sel (.inl ⟨rfl, rfl⟩) ha.w5)⟩
        · rw [ej, tl_node (by decide), tlL_cons, tlL_nil]; simp; omega
        · rw [wc_node (by decide) (by decide), wcL_cons, wcL_nil]; simp; omega
      | snd a ha =>
        rw [tl_node (by decide), tlL_cons, tlL_nil] at hz
        obtain ⟨wa, ha⟩ := kid a (by simp) ha (by omega)
        have l1 := ha.len; have c1 := ha.w_cnt (lv := 5) (by decide)
        have pa := par_len (decide (lvE a < 5)) (jn wa)
        have ej : jn ((3, [35, 50]) :: wr 5 a wa) = [35, 50, 32] ++ par (decide (lvE a < 5)) (jn wa) := by
          rw [jn_cons, jt_jn (ha.w_ne 5), ha.w_jn]; simp
        refine ⟨_, bx5 (by simp) (mem_cons (tk_s (by decide)) (ha.w_tk 5)) ?_ ((pw_snd ha.pw (by omega)).cast ej.symm) (by rw [sW3]; decide) rfl ?_ (a_sel (.inr ⟨rfl, rfl⟩) ha.w5)⟩
        · rw [ej, tl_node (by decide), tlL_cons, tlL_nil]; simp; omega
        · rw [wc_node (by decide) (by decide), wcL_cons, wcL_nil]; simp; omega
      | let_ s a b h ha hb =>
        rw [tl_node (by decide), tlL_cons, tlL_cons, tlL_nil] at hz
        obtain ⟨wa, ha⟩ := kid a (by simp) ha (by omega)
        obtain ⟨wb, hb⟩ := kid b (by simp) hb (by omega)
        have l1 := ha.len; have l2 := hb.len; have c1 := ha.cnt; have c2 := hb.cnt
        have hn := ck_len h
        have ej : jn ((3, [108, 101, 116]) :: (1, nm) :: (3, [61]) :: (wa ++ (3, [105, 110]) :: (wb ++ [(3, [101, 110, 100])]))) = [108, 101, 116, 32] ++ nm ++ [32, 61, 32] ++ jn wa ++ [32, 105, 110, 32] ++ jn wb ++ [32, 101, 110, 100] := by
          rw [jn_cons, jt_cons, jt_cons, jt_app, jt_jn ha.ne, jt_cons, jt_app, jt_jn hb.ne]; simp [jt]
        refine ⟨_, bx0 (by simp) ?_ ?_ ((pw_let ha.pw hb.pw (by omega) (by omega) (by omega)).cast ej.symm) (by rw [kW3]; decide) rfl ?_ (a_let h ha.a0 hb.a0)⟩
        · exact mem_cons (tk_e (by decide)) (mem_cons (tk_ck h) (mem_cons (tk_s (by decide)) (mem_app ha.tk (mem_cons (tk_e (by decide)) (mem_app hb.tk (mem_one (tk_e (by decide))))))))
        · rw [ej, tl_node (by decide), tlL_cons, tlL_cons, tlL_nil]; simp; omega
        · rw [wc_node (by decide) (by decide), wcL_cons, wcL_cons, wcL_nil]; simp; omega
      | if_ a b c ha hb hc =>
        rw [tl_node (by decide), tlL_cons, tlL_cons, tlL_cons, tlL_nil] at hz
        obtain ⟨wa, ha⟩ := kid a (by simp) ha (by omega)
        obtain ⟨wb, hb⟩ := kid b (by simp) hb (by omega)
        obtain ⟨wc', hc⟩ := kid c (by simp) hc (by omega)
        have l1 := ha.len; have l2 := hb.len; have l3 := hc.len; have c1 := ha.cnt; have c2 := hb.cnt; have c3 := hc.cnt
        have ej : jn ((3, [105, 102]) :: (wa ++ (3, [116, 104, 101, 110]) :: (wb ++ (3, [101, 108, 115, 101]) :: wc'))) = [105, 102, 32] ++ jn wa ++ [32, 116, 104, 101, 110, 32] ++ jn wb ++ [32, 101, 108, 115, 101, 32] ++ jn wc' := by
          rw [jn_cons, jt_app, jt_jn ha.ne, jt_cons, jt_app, jt_jn hb.ne, jt_cons, jt_jn hc.ne]; simp
        refine ⟨_, bx0 (by simp) ?_ ?_ ((pw_if ha.pw hb.pw hc.pw (by omega) (by omega) (by omega)).cast ej.symm) (by rw [kW3]; decide) rfl ?_ (a_if ha.a0 hb.a0 hc.a0)⟩
        · exact mem_cons (tk_e (by decide)) (mem_app ha.tk (mem_cons (tk_e (by decide)) (mem_app hb.tk (mem_cons (tk_e (by decide)) hc.tk))))
        · rw [ej, tl_node (by decide), tlL_cons, tlL_cons, tlL_cons, tlL_nil]; simp; omega
        · rw [wc_node (by decide) (by decide), wcL_cons, wcL_cons, wcL_cons, wcL_nil]; simp; omega
      | op n a b h ha hb =>
        rw [tl_node (by decide), tlL_cons, tlL_cons, tlL_nil] at hz
        obtain ⟨wa, ha⟩ := kid a (by simp) ha (by omega)
        obtain ⟨wb, hb⟩ := kid b (by simp) hb (by omega)
        have l1 := ha.len; have l2 := hb.len
        have mk : ∀ (lf rt : Int) (s : List UInt8), lf = lfO n → rt = lvO n + 1 → sgO n = [32] ++ s ++ [32] → s.length = 1 → 1 ≤ lf ∧ lf ≤ 5 → rt ≤ 5 → Tk (3, s) → (∀ w, w = wr lf a wa ++ (3, s) :: wr rt b wb → w ≠ [] → (∀ x ∈ w, Tk x) → (jn w).length + 8 ≤ tl (.node 31 n [] [] [a, b]) → PW (.node 31 n [] [] [a, b]) (jn w) → sW w = true → w.length + 2 ≤ wc (.node 31 n [] [] [a, b]) → Bx (.node 31 n [] [] [a, b]) w) → ∃ w, Bx (.node 31 n [] [] [a, b]) w := by
          intro lf rt s e1 e2 e3 hs1 hlf hrt hk fin
          have c1 := ha.w_cnt (lv := lf) hlf.2
          have c2 := hb.w_cnt (lv := rt) hrt
          have pa := par_len (decide (lvE a < lf)) (jn wa)
          have pb := par_len (decide (lvE b < rt)) (jn wb)
          have ej : jn (wr lf a wa ++ (3, s) :: wr rt b wb) = par (decide (lvE a < lfO n)) (jn wa) ++ sgO n ++ par (decide (lvE b < lvO n + 1)) (jn wb) := by
            rw [jn_app (ha.w_ne lf), jt_cons, jt_jn (hb.w_ne rt), ha.w_jn, hb.w_jn, e3, ← e1, ← e2]; simp
          refine ⟨_, fin _ rfl (by simp) (mem_app (ha.w_tk lf) (mem_cons hk (hb.w_tk rt))) ?_ ((pw_op h ha.pw hb.pw (by omega) (by omega)).cast ej.symm) (sW_pre (ha.w_ne lf) (ha.w_st (by omega))) ?_⟩
          · rw [ej, tl_node (by decide), tlL_cons, tlL_cons, tlL_nil, e3, ← e1, ← e2]; simp; omega
          · rw [wc_node (by decide) (by decide), wcL_cons, wcL_cons, wcL_nil]; simp; omega
        have h5 : n = 1 ∨ n = 2 ∨ n = 3 ∨ n = 4 ∨ n = 5 := by omega
        rcases h5 with rfl | rfl | rfl | rfl | rfl
        · exact mk 2 3 [43] rfl rfl rfl rfl (by decide) (by decide) (tk_s (by decide)) fun w e a1 a2 a3 a4 a5 a6 => bx2 a1 a2 a3 a4 a5 rfl a6 (e ▸ a_sum (.inl ⟨rfl, rfl⟩) ha.w2 hb.w3 (hb.w_ne 3))
        · exact mk 2 3 [45] rfl rfl rfl rfl (by decide) (by decide) (tk_s (by decide)) fun w e a1 a2 a3 a4 a5 a6 => bx2 a1 a2 a3 a4 a5 rfl a6 (e ▸ a_sum (.inr ⟨rfl, rfl⟩) ha.w2 hb.w3 (hb.w_ne 3))
        · exact mk 3 4 [42] rfl rfl rfl rfl (by decide) (by decide) (tk_s (by decide)) fun w e a1 a2 a3 a4 a5 a6 => bx3 a1 a2 a3 a4 a5 rfl a6 (e ▸ a_mul ha.w3 hb.w4 (hb.w_ne 4))
        · exact mk 2 2 [61] rfl rfl rfl rfl (by decide) (by decide) (tk_s (by decide)) fun w e a1 a2 a3 a4 a5 a6 => bx1 a1 a2 a3 a4 a5 rfl a6 (e ▸ a_cmp (.inl ⟨rfl, rfl⟩) (ha.w_ne 2) ha.w2 hb.w2 (hb.w_ne 2))
        · exact mk 2 2 [60] rfl rfl rfl rfl (by decide) (by decide) (tk_s (by decide)) fun w e a1 a2 a3 a4 a5 a6 => bx1 a1 a2 a3 a4 a5 rfl a6 (e ▸ a_cmp (.inr ⟨rfl, rfl⟩) (ha.w_ne 2) ha.w2 hb.w2 (hb.w_ne 2))
      | case_ a r ha h0 hr =>
        rw [tl_node (by decide), tlL_cons] at hz
        obtain ⟨wa, ha⟩ := kid a (by simp) ha (by omega)
        have l1 := ha.len; have c1 := ha.cnt
        obtain ⟨L, rfl, hL⟩ := arms_x r hr (fun y hy e he hi => kid2 y (List.mem_cons_of_mem _ hy) (by have := tlL_mem hy; omega) e he hi (by
          have := tlL_mem hy
          obtain ⟨c, x, e', rfl, _⟩ := arm_of (hr y hy)
          simp only [List.mem_singleton] at he
          subst he
          rw [tl_node (by decide), tlL_cons, tlL_nil] at this
          omega))
        have hL0 : L ≠ [] := fun e => h0 (by rw [e]; rfl)
        obtain ⟨j1, j2⟩ := xs_len L hL0 hL
        have ml : (L.map toA).map aTr = L.map xTr := by rw [List.map_map]; rfl
        have hn : (L.map toA).length ≤ 1048576 := by
          have := wL_len (L.map xTr)
          rw [wL_cons, ] at hw
          simp at this ⊢; omega
        have ej : jn ((3, [99, 97, 115, 101]) :: (wa ++ (3, [111, 102]) :: xsW L)) = [99, 97, 115, 101, 32] ++ jn wa ++ [32, 111, 102, 32] ++ armsS (L.map toA) := by
          rw [jn_cons, jt_app, jt_jn ha.ne, jt_cons, jt_jn (xs_ne L), jn_xs L hL0 hL]; simp
        have hp := pw_case (n := 0) (nm := []) (mk := []) (L := L.map toA) ha.pw (by omega) (fun x hx => by
          obtain ⟨y, hy, rfl⟩ := List.mem_map.1 hx
          obtain ⟨q1, q2, q3⟩ := hL y hy
          have := ck_len q1; have := ck_len q2; have := q3.len
          have hm := tlL_mem (List.mem_map_of_mem (f := xTr) hy)
          rw [tl_arm] at hm
          exact ⟨by show y.1.length ≤ 1000; omega, by show y.2.1.length ≤ 1000; omega, q3.pw, by show (jn y.2.2.2).length ≤ _; omega⟩) hn (by omega)
        rw [ml] at hp
        refine ⟨_, bx0 (by simp) ?_ ?_ (hp.cast ej.symm) (by rw [kW3]; decide) rfl ?_ (a_case ha.a0 hL0 (fun x hx => ⟨(hL x hx).1, (hL x hx).2.1, (hL x hx).2.2.a0⟩))⟩
        · exact mem_cons (tk_e (by decide)) (mem_app ha.tk (mem_cons (tk_e (by decide)) (xs_tk L hL)))
        · rw [ej, tl_node (by decide), tlL_cons]; unfold armsS; simp only [List.length_append, List.length_cons, List.length_nil]; omega
        · rw [wc_node (by decide) (by decide), wcL_cons]; simp only [List.length_append, List.length_cons]; omega
      | fold_ a t r ha ht h0 hr =>
        rw [tl_node (by decide), tlL_cons, tlL_cons, tl_ty ht] at hz
        obtain ⟨wa, ha⟩ := kid a (by simp) ha (by omega)
        obtain ⟨wt, t1, t2⟩ := typ t (by simp) ht
        have l1 := ha.len; have c1 := ha.cnt; have l2 := t1.len; have c2 := t1.cnt
        obtain ⟨L, rfl, hL⟩ := arms_x r hr (fun y hy e he hi => kid2 y (List.mem_cons_of_mem _ (List.mem_cons_of_mem _ hy)) (by have := tlL_mem hy; omega) e he hi (by
          have := tlL_mem hy
          obtain ⟨c, x, e', rfl, _⟩ := arm_of (hr y hy)
          simp only [List.mem_singleton] at he
          subst he
          rw [tl_node (by decide), tlL_cons, tlL_nil] at this
          omega))
        have hL0 : L ≠ [] := fun e => h0 (by rw [e]; rfl)
        obtain ⟨j1, j2⟩ := xs_len L hL0 hL
        have ml : (L.map toA).map aTr = L.map xTr := by rw [List.map_map]; rfl
        have hn : (L.map toA).length ≤ 1048576 := by
          have := wL_len (L.map xTr)
          rw [wL_cons, wL_cons] at hw
          simp at this ⊢; omega
        have ej : jn ((3, [102, 111, 108, 100]) :: (wa ++ (3, [116, 111]) :: (wt ++ (3, [111, 102]) :: xsW L))) = [102, 111, 108, 100, 32] ++ jn wa ++ [32, 116, 111, 32] ++ jn wt ++ [32, 111, 102, 32] ++ armsS (L.map toA) := by
          rw [jn_cons, jt_app, jt_jn ha.ne, jt_cons, jt_app, jt_jn t1.ne, jt_cons, jt_jn (xs_ne L), jn_xs L hL0 hL]; simp
        have hp := pw_fold (n := 0) (nm := []) (mk := []) (L := L.map toA) ha.pw (by omega) t2 (by omega) (fun x hx => by
          obtain ⟨y, hy, rfl⟩ := List.mem_map.1 hx
          obtain ⟨q1, q2, q3⟩ := hL y hy
          have := ck_len q1; have := ck_len q2; have := q3.len
          have hm := tlL_mem (List.mem_map_of_mem (f := xTr) hy)
          rw [tl_arm] at hm
          exact ⟨by show y.1.length ≤ 1000; omega, by show y.2.1.length ≤ 1000; omega, q3.pw, by show (jn y.2.2.2).length ≤ _; omega⟩) hn (by omega)
        rw [ml] at hp
        refine ⟨_, bx0 (by simp) ?_ ?_ (hp.cast ej.symm) (by rw [kW3]; decide) rfl ?_ (a_fold ha.a0 t1.p0 hL0 (fun x hx => ⟨(hL x hx).1, (hL x hx).2.1, (hL x hx).2.2.a0⟩))⟩
        · exact mem_cons (tk_e (by decide)) (mem_app ha.tk (mem_cons (tk_e (by decide)) (mem_app (gd_tk t1) (mem_cons (tk_e (by decide)) (xs_tk L hL)))))
        · rw [ej, tl_node (by decide), tlL_cons, tlL_cons, tl_ty ht]; unfold armsS; simp only [List.length_append, List.length_cons, List.length_nil]; omega
        · rw [wc_node (by decide) (by decide), wcL_cons, wcL_cons, wc_ty ht]; simp only [List.length_append, List.length_cons]; omega
end Go.Proofs.YtpplkbcfidpbcaaGreatDoor

