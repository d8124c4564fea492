/- Joined texts: N1, V0, V1, X5, X6, X7, N2, V5, X8, V6, X9c, Y6. -/
import Derived.Test.YtnogkihchgnbcaaGreatDoorGp
import Derived.Test.YtnogkihchgnbcaaGreatDoorGq
import Derived.Test.YtnogkihchgnbcaaGreatDoorGw
import Derived.Test.YtnogkihchgnbcaaGreatDoorGy
/- A number's text: the program's and the document's are the same. -/
namespace Go.Proofs.YtnogkihchgnbcaaGreatDoor
open Go Go.Am Go.Sx
def dgt (d : Nat) : UInt8 := UInt8.ofNat (48 + d)
/-- the digits of a number -/
def digF : Nat → Nat → List UInt8
  | 0, _ => []
  | f + 1, n => if n < 10 then [dgt n] else digF f (n / 10) ++ [dgt (n % 10)]
def dig (n : Nat) : List UInt8 := digF (n + 1) n
theorem digF_eq : ∀ (f g n : Nat), n < f → n < g → digF f n = digF g n
  | 0, _, _, h, _ => by omega
  | _ + 1, 0, _, _, h => by omega
  | f + 1, g + 1, n, h1, h2 => by
    unfold digF
    by_cases h : n < 10
    · rw [if_pos h, if_pos h]
    · rw [if_neg h, if_neg h, digF_eq f g (n / 10) (by omega) (by omega)]
theorem dig_small {n : Nat} (h : n < 10) : dig n = [dgt n] := by unfold dig digF; rw [if_pos h]
theorem dig_big {n : Nat} (h : ¬ n < 10) : dig n = dig (n / 10) ++ [dgt (n % 10)] := by
  rw [dig, digF, if_neg h, dig, digF_eq n (n / 10 + 1) (n / 10) (by omega) (by omega)]
/-- a number's text -/
def numS (n : Int) : List UInt8 := (if n < 0 then [126] else []) ++ dig n.natAbs
/-! ### the program's: digits from the last one on, turned round -/
theorem wrapU64 {x : Int} (h1 : 0 ≤ x) (h2 : x ≤ 18446744073709551615) : IntKind.u64.wrap x = x := by
  show (if (false && decide (x % 18446744073709551616 ≥ 9223372036854775808)) = true then x % 18446744073709551616 - 18446744073709551616 else x % 18446744073709551616) = x
  simp only [Bool.false_and, Bool.false_eq_true, if_false]
  omega
theorem wrapU64n {x : Int} (h1 : x < 0) (h2 : -18446744073709551616 ≤ x) : IntKind.u64.wrap x = x + 18446744073709551616 := by
  show (if (false && decide (x % 18446744073709551616 ≥ 9223372036854775808)) = true then x % 18446744073709551616 - 18446744073709551616 else x % 18446744073709551616) = _
  simp only [Bool.false_and, Bool.false_eq_true, if_false]
  omega
theorem ev_rev : ∀ (b : Nat) (A M B : List Int), M.length ≤ b → A.length + M.length + B.length ≤ 1000 → Ev (fun K => slices_Reverse_l0 K (A ++ M ++ B) (A.length : Int) ((A.length : Int) + (M.length : Int) - 1)) (A ++ M.reverse ++ B) := by
  intro b
  induction b with
  | zero =>
    intro A M B hb hl
    have e : M = [] := List.length_eq_zero_iff.1 (by omega)
    subst e
    refine Ev.step (fun k => by rw [slices_Reverse_l0]) ?_
    exact Ev.dF (by simp; omega) (Ev.pure' (by simp))
  | succ b ih =>
    intro A M B hb hl
    match M, hb, hl with
    | [], _, _ =>
      refine Ev.step (fun k => by rw [slices_Reverse_l0]) ?_
      exact Ev.dF (by simp; omega) (Ev.pure' (by simp))
    | [x], _, _ =>
      refine Ev.step (fun k => by rw [slices_Reverse_l0]) ?_
      exact Ev.dF (by simp) (Ev.pure' (by simp))
    | x :: x' :: r, hb, hl =>
      obtain ⟨M', y, hM⟩ : ∃ M' y, x' :: r = M' ++ [y] := ⟨(x' :: r).dropLast, (x' :: r).getLast (by simp), (List.dropLast_concat_getLast (by simp)).symm⟩
      rw [hM] at hb hl ⊢
      have hlen : (A ++ (x :: (M' ++ [y])) ++ B).length = A.length + M'.length + 2 + B.length := by simp; omega
      simp only [List.length_cons, List.length_append, List.length_nil] at hb hl
      have ej : (A.length : Int) + ((x :: (M' ++ [y])).length : Nat) - 1 = ((A.length + M'.length + 1 : Nat) : Int) := by simp; omega
      rw [ej]
      refine Ev.step (fun k => by rw [slices_Reverse_l0]) ?_
      refine Ev.dT (by omega) ?_
      have gy : getI (A ++ (x :: (M' ++ [y])) ++ B) ((A.length + M'.length + 1 : Nat) : Int) = some y := by
        rw [getI_nat, show A ++ (x :: (M' ++ [y])) ++ B = (A ++ x :: M') ++ (y :: B) by simp, List.getElem?_append_right (by simp; omega)]
        simp [show A.length + M'.length + 1 - (A.length + (M'.length + 1)) = 0 by omega]
      have gx : getI (A ++ (x :: (M' ++ [y])) ++ B) (A.length : Int) = some x := by
        rw [getI_nat, List.append_assoc, List.getElem?_append_right (by omega)]
        simp
      have s1 : (A ++ (x :: (M' ++ [y])) ++ B).set A.length y = A ++ (y :: (M' ++ [y])) ++ B := by
        rw [List.append_assoc, List.set_append_right _ _ (by omega)]
        simp
      have s2 : (A ++ (y :: (M' ++ [y])) ++ B).set (A.length + M'.length + 1) x = (A ++ [y]) ++ M' ++ (x :: B) := by
        rw [show A ++ (y :: (M' ++ [y])) ++ B = (A ++ y :: M') ++ (y :: B) by simp, List.set_append_right _ _ (by simp; omega)]
        simp [show A.length + M'.length + 1 - (A.length + (M'.length + 1)) = 0 by omega]
      refine Ev.iteT ⟨by omega, by rw [hlen]; omega⟩ ?_
      refine Ev.opt gy ?_
      refine Ev.iteT ⟨by omega, by rw [hlen]; omega⟩ ?_
      refine Ev.opt gx ?_
      refine Ev.iteT ⟨by omega, by rw [hlen]; omega⟩ ?_
      refine Ev.opt gx ?_
      rw [show ((A.length : Int)).toNat = A.length by omega, show (((A.length + M'.length + 1 : Nat) : Int)).toNat = A.length + M'.length + 1 by omega, s1, s2]
      refine Ev.iteT ⟨by omega, by simp; omega⟩ ?_
      refine Ev.opt (a := y) ?_ ?_
      · rw [getI_nat, show A ++ (y :: (M' ++ [y])) ++ B = (A ++ y :: M') ++ (y :: B) by simp, List.getElem?_append_right (by simp; omega)]
        simp [show A.length + M'.length + 1 - (A.length + (M'.length + 1)) = 0 by omega]
      · rw [wrap_nat (by omega), wrap_id (by omega) (by omega)]
        have := ih (A ++ [y]) M' (x :: B) (by omega) (by simp; omega)
        rw [show ((A.length + M'.length + 1 : Nat) : Int) - 1 = ((A ++ [y]).length : Nat) + (M'.length : Int) - 1 by simp; omega, show ((A.length + 1 : Nat) : Int) = ((A ++ [y]).length : Nat) by simp]
        refine Ev.cast this ?_
        simp
theorem ev_Reverse (l : List Int) (h : l.length ≤ 1000) (h1 : 1 ≤ l.length) : Ev (fun K => slices_Reverse K l) l.reverse := by
  refine Ev.congr (f := fun K => _) ?_ (fun k => by rw [slices_Reverse])
  have := ev_rev l.length [] l [] (Nat.le_refl _) (by simp; omega)
  rw [wrap_id (by omega) (by omega)]
  simpa using this
/-- the digits from the last one on -/
def rdgF : Nat → Nat → List Int
  | 0, _ => []
  | f + 1, n => ((48 + n % 10 : Nat) : Int) :: (if n < 10 then [] else rdgF f (n / 10))
theorem rdgF_dig : ∀ (f n : Nat), n < 10 ^ f → 1 ≤ f → encB (rdgF f n).reverse = dig n
  | 0, _, _, h => by omega
  | f + 1, n, h, _ => by
    unfold rdgF
    by_cases h10 : n < 10
    · rw [if_pos h10, dig_small h10, Nat.mod_eq_of_lt h10]; rfl
    · rw [if_neg h10, dig_big h10]
      have hf : 1 ≤ f := by
        cases f with
        | zero => simp at h; omega
        | succ f => omega
      have := rdgF_dig f (n / 10) (by rw [Nat.pow_succ] at h; omega) hf
      simp only [encB] at this
      simp only [encB, List.reverse_cons, List.map_append, this, List.map_cons, List.map_nil]
      rfl
theorem ev_Number_l0 (sign : List UInt8) (hs : sign.length ≤ 10) : ∀ (f n : Nat) (acc : List Int), n < 10 ^ f → 1 ≤ f → acc.length + f ≤ 900 → n ≤ 1099511627776 → Ev (fun K => lexer_Number_l0 K (n : Int) sign acc true) (sign ++ encB (acc ++ rdgF f n).reverse)
  | 0, _, _, _, h, _, _ => by omega
  | f + 1, n, acc, h, _, ha, hn => by
    have q1 := Int.tmod_add_mul_tdiv (n : Int) 10
    have q2 := Int.tmod_lt_of_pos (n : Int) (b := 10) (by decide)
    have q4 : 0 ≤ (n : Int).tmod 10 := Int.tmod_nonneg 10 (by omega)
    have em : (n : Int).tmod 10 = ((n % 10 : Nat) : Int) := by omega
    have eq : (n : Int).tdiv 10 = ((n / 10 : Nat) : Int) := by omega
    have quo : divI .quo .u64 (n : Int) 10 = some ((n / 10 : Nat) : Int) := by
      show (if (10 : Int) = 0 then none else some (IntKind.u64.wrap ((n : Int).tdiv 10))) = _
      rw [if_neg (by decide), eq, wrapU64 (by omega) (by omega)]
    have rem : divI .rem .u64 (n : Int) 10 = some ((n % 10 : Nat) : Int) := by
      show (if (10 : Int) = 0 then none else some ((n : Int).tmod 10)) = _
      rw [if_neg (by decide), em]
    refine Ev.step (fun k => by rw [lexer_Number_l0]) ?_
    refine Ev.isT rfl ?_
    refine Ev.opt rem ?_
    rw [wrapU64 (x := 48 + ((n % 10 : Nat) : Int)) (by omega) (by omega), wrapU8 (x := 48 + ((n % 10 : Nat) : Int)) (by omega) (by omega)]
    refine Ev.opt (appL_ok (by simp; omega)) ?_
    refine Ev.opt quo ?_
    unfold rdgF
    rw [show (48 : Int) + ((n % 10 : Nat) : Int) = ((48 + n % 10 : Nat) : Int) by omega]
    by_cases h10 : n < 10
    · rw [if_pos h10, decide_eq_false (show ¬ (0 : Int) < ((n / 10 : Nat) : Int) by omega)]
      refine Ev.step (fun k => by rw [lexer_Number_l0]) ?_
      refine Ev.isF rfl ?_
      refine Ev.bind (ev_Reverse _ (by simp; omega) (by simp)) ?_
      refine Ev.iteT (by simp) ?_
      refine Ev.opt (catS_ok (by simp [encB]; omega)) Ev.pure
    · rw [if_neg h10, decide_eq_true (show (0 : Int) < ((n / 10 : Nat) : Int) by omega)]
      have hf : 1 ≤ f := by
        cases f with
        | zero => simp at h; omega
        | succ f => omega
      have := ev_Number_l0 sign hs f (n / 10) (acc ++ [((48 + n % 10 : Nat) : Int)]) (by rw [Nat.pow_succ] at h; omega) hf (by simp; omega) (by omega)
      rw [List.append_assoc] at this
      exact this
theorem ev_Number1 (n : Int) (hn : n.natAbs ≤ 1099511627776) : Ev (fun K => lexer_Number K n) (numS n) := by
  refine Ev.congr (f := fun K => _) ?_ (fun k => by rw [lexer_Number])
  have core : ∀ sign : List UInt8, sign.length ≤ 10 → Ev (fun K => lexer_Number_c0 K (n.natAbs : Int) sign) (sign ++ dig n.natAbs) := fun sign hs => by
    refine Ev.step (fun k => by rw [lexer_Number_c0]) ?_
    have := ev_Number_l0 sign hs 13 n.natAbs [] (by omega) (by omega) (by simp) hn
    rw [List.nil_append, rdgF_dig 13 _ (by omega) (by omega)] at this
    exact this
  unfold numS
  refine Ev.d (fun hneg => ?_) (fun hneg => ?_)
  · rw [if_pos hneg, wrapU64n hneg (by omega), wrapU64n (by omega) (by omega), show 0 - (n + 18446744073709551616) + 18446744073709551616 = (n.natAbs : Int) by omega]
    exact core [126] (by simp)
  · rw [if_neg hneg, wrapU64 (by omega) (by omega)]
    have := core [] (by simp)
    rwa [show (n.natAbs : Int) = n by omega] at this
end Go.Proofs.YtnogkihchgnbcaaGreatDoor

/- The forms of expressions. -/
namespace Go.Proofs.YtnogkihchgnbcaaGreatDoor
open Go Go.Am Go.Sx
/-- the forms of an expression -/
inductive Ex : Tr → Prop
  | int (n : Int) (h : -1073741824 ≤ n ∧ n ≤ 1073741824) : Ex (.node 20 n [] [] [])
  | bool (n : Int) (h : n = 0 ∨ n = 1) : Ex (.node 21 n [] [] [])
  | unit : Ex (.node 22 0 [] [] [])
  | var (s : List UInt8) (h : lgS s = true) : Ex (.node 23 0 s [] [])
  | lam (s : List UInt8) (t b : Tr) (h : ckS s = true) (ht : isT 1 t = true) (hb : isT 2 b = true) : Ex (.node 24 0 s [] [t, b])
  | app (a b : Tr) (ha : isT 2 a = true) (hb : isT 2 b = true) : Ex (.node 25 0 [] [] [a, b])
  | pair (a b : Tr) (ha : isT 2 a = true) (hb : isT 2 b = true) : Ex (.node 26 0 [] [] [a, b])
  | fst (a : Tr) (ha : isT 2 a = true) : Ex (.node 27 0 [] [] [a])
  | snd (a : Tr) (ha : isT 2 a = true) : Ex (.node 28 0 [] [] [a])
  | let_ (s : List UInt8) (a b : Tr) (h : ckS s = true) (ha : isT 2 a = true) (hb : isT 2 b = true) : Ex (.node 29 0 s [] [a, b])
  | if_ (a b c : Tr) (ha : isT 2 a = true) (hb : isT 2 b = true) (hc : isT 2 c = true) : Ex (.node 30 0 [] [] [a, b, c])
  | op (n : Int) (a b : Tr) (h : 1 ≤ n ∧ n ≤ 5) (ha : isT 2 a = true) (hb : isT 2 b = true) : Ex (.node 31 n [] [] [a, b])
  | case_ (a : Tr) (r : List Tr) (ha : isT 2 a = true) (h0 : r ≠ []) (hr : ∀ y ∈ r, isT 9 y = true) : Ex (.node 32 0 [] [] (a :: r))
  | fold_ (a t : Tr) (r : List Tr) (ha : isT 2 a = true) (ht : isT 1 t = true) (h0 : r ≠ []) (hr : ∀ y ∈ r, isT 9 y = true) : Ex (.node 33 0 [] [] (a :: t :: r))
end Go.Proofs.YtnogkihchgnbcaaGreatDoor

/- The program's writer of expressions, form by form: what it writes out of what it writes of the kids. -/
namespace Go.Proofs.YtnogkihchgnbcaaGreatDoor
open Go Go.Am Go.Sx
end Go.Proofs.YtnogkihchgnbcaaGreatDoor

/- Types as words, and the parser on them. -/
namespace Go.Proofs.YtnogkihchgnbcaaGreatDoor
open Go Go.Am Go.Sx
abbrev Wd := Int × List UInt8
def kt (k : Token) : Wd := (k.1, k.2.1)
/-- from a place on these words stand -/
def At (l : List Token) (i : Nat) (m : List Wd) : Prop := (l.map kt).drop i = m
def kW (m : List Wd) (s : List UInt8) : Bool := match m with
  | x :: _ => decide (x.1 = 3) && decide (x.2 = s)
  | [] => false
def nW (m : List Wd) : List UInt8 × Bool := match m with
  | x :: _ => if x.1 = 1 ∧ ckS x.2 = true then (x.2, true) else ([], false)
  | [] => ([], false)
def gW (m : List Wd) : List UInt8 × Bool := match m with
  | x :: _ => if x.1 = 1 ∧ lgS x.2 = true then (x.2, true) else ([], false)
  | [] => ([], false)
theorem At.tok {l : List Token} {i : Nat} {x : Wd} {m : List Wd} (h : At l i (x :: m)) : ∃ k, tokAt l (i : Int) = some k ∧ kt k = x := by
  unfold At at h
  have hlt : i < (l.map kt).length := by
    rcases Nat.lt_or_ge i (l.map kt).length with h1 | h1
    · exact h1
    · rw [List.drop_of_length_le h1] at h; cases h
  rw [List.drop_eq_getElem_cons hlt] at h
  have h1 := (List.cons.inj h).1
  rw [List.getElem_map] at h1
  rw [List.length_map] at hlt
  exact ⟨l[i], by unfold tokAt; rw [if_pos (by omega)]; exact getI_lt hlt, h1⟩
theorem At.none {l : List Token} {i : Nat} (h : At l i []) : tokAt l (i : Int) = none := by
  unfold At at h
  have := congrArg List.length h
  rw [List.length_drop, List.length_map, List.length_nil] at this
  exact tok_none (by omega)
theorem At.key {l : List Token} {i : Nat} {m : List Wd} (h : At l i m) (s : List UInt8) : keyS l (i : Int) s = kW m s := by
  cases m with
  | nil => unfold keyS kW; rw [h.none]
  | cons x m =>
    obtain ⟨k, h1, h2⟩ := h.tok
    unfold keyS kW; rw [h1, ← h2]; rfl
theorem At.name {l : List Token} {i : Nat} {m : List Wd} (h : At l i m) : nameS l (i : Int) = nW m := by
  cases m with
  | nil => unfold nameS nW; rw [h.none]
  | cons x m =>
    obtain ⟨k, h1, h2⟩ := h.tok
    unfold nameS nW; rw [h1, ← h2]; rfl
theorem At.long {l : List Token} {i : Nat} {m : List Wd} (h : At l i m) : longS l (i : Int) = gW m := by
  cases m with
  | nil => unfold longS gW; rw [h.none]
  | cons x m =>
    obtain ⟨k, h1, h2⟩ := h.tok
    unfold longS gW; rw [h1, ← h2]; rfl
theorem At.app {l : List Token} {i : Nat} {a b : List Wd} (h : At l i (a ++ b)) : At l (i + a.length) b := by
  unfold At at h ⊢
  rw [← List.drop_drop, h]
  simp
theorem At.next {l : List Token} {i : Nat} {x : Wd} {b : List Wd} (h : At l i (x :: b)) : At l (i + 1) b := At.app (a := [x]) h
def Pa0 (t : Tr) (w : List Wd) : Prop := ∀ (l : List Token) (i n : Nat) (R : List Wd), At l i (w ++ R) → kW R [42] = false → kW R [45, 62] = false → 3 * w.length + 3 ≤ n → typS l n i = (t, i + w.length, 0)
def wp (b : Bool) (w : List Wd) : List Wd := if b = true then (3, [40]) :: w ++ [(3, [41])] else w
/-- constructors as words: each with its type's words -/
inductive ConsW : List Tr → List Wd → Prop
  | one {s y w} (hs : ckS s = true) (hy : Pa0 y w) : ConsW [.node 8 0 s [] [y]] ((1, s) :: (3, [111, 102]) :: w)
  | more {s y w c v} (hs : ckS s = true) (hy : Pa0 y w) (hc : ConsW c v) : ConsW (.node 8 0 s [] [y] :: c) ((1, s) :: (3, [111, 102]) :: (w ++ (3, [124]) :: v))
end Go.Proofs.YtnogkihchgnbcaaGreatDoor

/- Texts whose runes may all be read, and those of names: what stands behind changes nothing. -/
namespace Go.Proofs.YtnogkihchgnbcaaGreatDoor
open Go Go.Am Go.Sx
theorem bang_app {p q : List UInt8} {j : Nat} (h : j < p.length) : (p ++ q)[j]! = p[j]! := by
  rw [getElem!_pos _ j (by simp; omega), getElem!_pos _ j h, List.getElem_append_left h]
theorem dc_app {p : List UInt8} (q : List UInt8) (hp : p ≠ []) (hr : (dc p).1 ≠ 65533) : dc (p ++ q) = dc p := by
  have h1 : 1 ≤ p.length := by cases p with | nil => exact absurd rfl hp | cons => simp
  have e0 : (p ++ q)[0]! = p[0]! := bang_app h1
  have e1 : 1 < p.length → (p ++ q)[1]! = p[1]! := bang_app
  have e2 : 2 < p.length → (p ++ q)[2]! = p[2]! := bang_app
  have e3 : 3 < p.length → (p ++ q)[3]! = p[3]! := bang_app
  have hl : (p ++ q).length = p.length + q.length := List.length_append
  unfold dc Lib.decodeN at hr ⊢
  rw [e0, hl]
  generalize p[0]!.toNat = b0 at *
  by_cases c0 : b0 < 128
  · rw [if_pos c0, if_pos c0]
  rw [if_neg c0] at hr
  rw [if_neg c0, if_neg c0]
  by_cases c1 : b0 / 32 = 6 ∧ (1 < p.length ∧ p[1]!.toNat / 64 = 2)
  · rw [e1 c1.2.1, if_pos c1, if_pos ⟨c1.1, by omega, c1.2.2⟩]
  rw [if_neg c1] at hr
  rw [if_neg c1]
  by_cases c2 : b0 / 16 = 14 ∧ (1 < p.length ∧ p[1]!.toNat / 64 = 2) ∧ (2 < p.length ∧ p[2]!.toNat / 64 = 2)
  · rw [e1 c2.2.1.1, e2 c2.2.2.1, if_pos c2, if_neg (by omega), if_pos ⟨c2.1, ⟨by omega, c2.2.1.2⟩, by omega, c2.2.2.2⟩]
  rw [if_neg c2] at hr
  rw [if_neg c2]
  by_cases c3 : b0 / 8 = 30 ∧ (1 < p.length ∧ p[1]!.toNat / 64 = 2) ∧ (2 < p.length ∧ p[2]!.toNat / 64 = 2) ∧ (3 < p.length ∧ p[3]!.toNat / 64 = 2)
  · rw [e1 c3.2.1.1, e2 c3.2.2.1.1, e3 c3.2.2.2.1, if_pos c3, if_neg (by omega), if_neg (by omega), if_pos ⟨c3.1, ⟨by omega, c3.2.1.2⟩, ⟨by omega, c3.2.2.1.2⟩, by omega, c3.2.2.2.2⟩]
  rw [if_neg c3] at hr
  exact absurd rfl hr
theorem dc_byte {b : UInt8} {t : List UInt8} (h : b.toNat < 128) : dc (b :: t) = (b.toNat, 1) := dc_ascii (l := b :: t) h
/-- may a rune lie within a name? -/
def inn (r : Int) : Bool := decide (cls r = 1) || (decide (cls r = 2) || decide (r = 39))
/-- may a rune be read? -/
def okr (r : Nat) : Prop := r ≠ 65533 ∧ ((r : Int) < 32 → cls r = 3) ∧ r ≠ 127
theorem inn_low {r : Nat} (h : inn (r : Int) = true) : 39 ≤ r ∧ r ≠ 65533 ∧ r ≠ 127 := by
  unfold inn at h
  simp only [Bool.or_eq_true, decide_eq_true_eq] at h
  unfold cls at h
  rcases h with h | h | h
  · repeat' split at h
    all_goals omega
  · repeat' split at h
    all_goals omega
  · omega
theorem inn_ok {r : Nat} (h : inn (r : Int) = true) : okr r := by
  have := inn_low h
  exact ⟨this.2.1, fun h => by omega, this.2.2⟩
inductive Rk : List UInt8 → Prop
  | nil : Rk []
  | cons {p} (h : p ≠ []) (hr : okr (dc p).1) (t : Rk (p.drop (dc p).2)) : Rk p
inductive Inn : List UInt8 → Prop
  | nil : Inn []
  | cons {p} (h : p ≠ []) (hr : inn (((dc p).1 : Nat) : Int) = true) (t : Inn (p.drop (dc p).2)) : Inn p
theorem Inn.rk {p : List UInt8} (h : Inn p) : Rk p := by
  induction h with
  | nil => exact .nil
  | cons h hr _ ih => exact .cons h (inn_ok hr) ih
theorem drop_app {p q : List UInt8} {n : Nat} (h : n ≤ p.length) : (p ++ q).drop n = p.drop n ++ q := by
  rw [List.drop_append, show n - p.length = 0 by omega, List.drop_zero]
theorem rk_app {a b : List UInt8} (ha : Rk a) (hb : Rk b) : Rk (a ++ b) := by
  induction ha with
  | nil => exact hb
  | @cons p h hr _ ih =>
    have e := dc_app b h hr.1
    refine .cons (by simp [h]) (by rw [e]; exact hr) ?_
    rw [e, drop_app (dc_le h)]; exact ih
theorem rk_ascii : ∀ {p : List UInt8}, (∀ b ∈ p, 32 ≤ b.toNat ∧ b.toNat < 127) → Rk p
  | [], _ => .nil
  | b :: t, h => by
    have hb := h b List.mem_cons_self
    have e : dc (b :: t) = (b.toNat, 1) := dc_byte (by omega)
    refine .cons (by simp) ?_ ?_
    · rw [e]; exact ⟨by simp only; omega, fun h => by simp only at h; omega, by simp only; omega⟩
    · rw [e]; exact rk_ascii fun b hb => h b (List.mem_cons_of_mem _ hb)
theorem inn_ascii : ∀ {p : List UInt8}, (∀ b ∈ p, 97 ≤ b.toNat ∧ b.toNat < 123) → Inn p
  | [], _ => .nil
  | b :: t, h => by
    have hb := h b List.mem_cons_self
    have e : dc (b :: t) = (b.toNat, 1) := dc_byte (by omega)
    have hc : cls ((b.toNat : Nat) : Int) = 1 := by unfold cls; rw [if_pos (by omega)]
    refine .cons (by simp) ?_ ?_
    · rw [e]; unfold inn; rw [hc]; rfl
    · rw [e]; exact inn_ascii fun b hb => h b (List.mem_cons_of_mem _ hb)
theorem inn_name : ∀ (n : Nat) (p : List UInt8), p.length ≤ n → ∀ f, nmOk f (rs p) = true → Inn p := by
  intro n
  induction n with
  | zero =>
    intro p h f _
    obtain rfl := List.length_eq_zero_iff.1 (Nat.le_zero.1 h)
    exact .nil
  | succ n ih =>
    intro p h f ho
    by_cases hp : p = []
    · subst hp; exact .nil
    · rw [rs_step hp, nmOk_cons] at ho
      simp only [Bool.and_eq_true, Bool.or_eq_true] at ho
      have hw := dc_width p
      refine .cons hp ?_ (ih _ (by rw [List.length_drop]; omega) false ho.2)
      unfold inn
      simp only [Bool.or_eq_true]
      rcases ho.1 with h1 | h1
      · exact .inl h1
      · exact .inr h1.2
theorem first_name {p : List UInt8} (hp : p ≠ []) (ho : nmOk true (rs p) = true) : cls (((dc p).1 : Nat) : Int) = 1 := by
  rw [rs_step hp, nmOk_cons] at ho
  simp only [Bool.not_true, Bool.false_and, Bool.or_false, Bool.and_eq_true, decide_eq_true_eq] at ho
  exact ho.1
theorem ck_parts {s : List UInt8} (h : ckS s = true) : s ≠ [] ∧ nmS s = true ∧ s ∉ wrds ∧ Inn s ∧ cls (((dc s).1 : Nat) : Int) = 1 := by
  unfold ckS at h
  simp only [Bool.and_eq_true, Bool.not_eq_true', decide_eq_false_iff_not] at h
  have h1 := h.1
  unfold nmS at h1
  simp only [Bool.and_eq_true, decide_eq_true_eq] at h1
  exact ⟨h1.1, h.1, h.2, inn_name _ s (Nat.le_refl _) true h1.2.2.2, first_name h1.1 h1.2.2.2⟩
/-- parts of a long name behind the first one -/
def lj : List (List UInt8) → List UInt8
  | [] => []
  | p :: r => 46 :: (p ++ lj r)
theorem pcs_lj : ∀ s : List UInt8, (pcs s).headD [] ++ lj (pcs s).tail = s
  | [] => rfl
  | b :: t => by
    have ih := pcs_lj t
    unfold pcs
    by_cases h : b = 46
    · rw [if_pos h]
      show [] ++ lj (pcs t) = _
      rw [pcs_ht t, h, List.nil_append]
      show 46 :: ((pcs t).headD [] ++ lj (pcs t).tail) = _
      rw [ih]
    · rw [if_neg h]
      show b :: ((pcs t).headD [] ++ lj (pcs t).tail) = _
      rw [ih]
theorem rk_lj : ∀ {r : List (List UInt8)}, (∀ p ∈ r, ckS p = true) → Rk (lj r)
  | [], _ => .nil
  | p :: r, h => by
    show Rk ([46] ++ (p ++ lj r))
    exact rk_app (rk_ascii (by decide)) (rk_app (ck_parts (h p List.mem_cons_self)).2.2.2.1.rk (rk_lj fun q hq => h q (List.mem_cons_of_mem _ hq)))
/-- a long name's parts -/
theorem lg_parts {s : List UInt8} (h : lgS s = true) : ∃ p r, s = p ++ lj r ∧ ckS p = true ∧ (∀ q ∈ r, ckS q = true) ∧ s.length ≤ 128 := by
  unfold lgS at h
  simp only [Bool.and_eq_true, decide_eq_true_eq, List.all_eq_true] at h
  have h2 := h.2
  rw [pcs_ht s] at h2
  exact ⟨_, _, (pcs_lj s).symm, h2 _ List.mem_cons_self, fun q hq => h2 q (List.mem_cons_of_mem _ hq), h.1⟩
theorem ck_one {s : List UInt8} (h : ckS s = true) : ∃ p r, s = p ++ lj r ∧ ckS p = true ∧ (∀ q ∈ r, ckS q = true) ∧ s.length ≤ 128 := by
  refine ⟨s, [], by simp [lj], h, fun q hq => by simp at hq, ?_⟩
  unfold ckS nmS at h
  simp only [Bool.and_eq_true, decide_eq_true_eq] at h
  omega
/-- words of the text, with a blank ahead of each -/
def jt : List Wd → List UInt8
  | [] => []
  | x :: r => 32 :: (x.2 ++ jt r)
/-- words of the text, with a blank between -/
def jn : List Wd → List UInt8
  | [] => []
  | x :: r => x.2 ++ jt r
end Go.Proofs.YtnogkihchgnbcaaGreatDoor

/- The lexer on words with blanks between. -/
namespace Go.Proofs.YtnogkihchgnbcaaGreatDoor
open Go Go.Am Go.Sx
theorem ev_inner (r : Int) : Ev (fun K => lexer_inner K r) (inn r) := by
  refine Ev.congr (f := fun K => _) ?_ (fun K => by rw [lexer_inner])
  refine Ev.bind (ev_class1 r) ?_
  unfold inn
  refine Ev.d (fun h => Ev.pure' ?_) (fun h => Ev.d (fun h2 => Ev.pure' ?_) (fun h2 => Ev.pure' ?_))
  · rw [decide_eq_true h]; rfl
  · rw [decide_eq_true h2]; simp
  · rw [decide_eq_false h, decide_eq_false h2]; rfl
/-- here a name ends -/
def Stop (t : List UInt8) : Prop := t = [] ∨ ∃ b r, t = b :: r ∧ b.toNat < 128 ∧ inn ((b.toNat : Nat) : Int) = false
theorem stop_46 (r : List UInt8) : Stop (46 :: r) := .inr ⟨46, r, rfl, by decide, by decide⟩
theorem stop_32 (r : List UInt8) : Stop (32 :: r) := .inr ⟨32, r, rfl, by decide, by decide⟩
theorem ev_span2_loop (s : List UInt8) : ∀ (m : Nat) (p : List UInt8), p.length ≤ m → Inn p → ∀ (i : Nat) (tail : List UInt8), s.drop i = p ++ tail → Stop tail → i ≤ s.length → Ev (fun K => lexer_span_2_l0 K s s (i : Int)) ((i + p.length : Nat) : Int) := by
  have fin : ∀ (i : Nat) (tail : List UInt8), s.drop i = tail → Stop tail → i ≤ s.length → Ev (fun K => lexer_span_2_l0 K s s (i : Int)) ((i : Nat) : Int) := fun i tail hd hst hi => by
    refine Ev.step (fun k => by rw [lexer_span_2_l0]) ?_
    simp only [Int.toNat_natCast, runeAt_dc]
    rcases hst with e | ⟨b, r, e, hb, hn⟩
    · rw [e] at hd
      have := congrArg List.length hd
      rw [List.length_drop, List.length_nil] at this
      exact Ev.dF (by omega) (Ev.pure' (by omega))
    · rw [e] at hd
      have := congrArg List.length hd
      rw [List.length_drop, List.length_cons] at this
      refine Ev.dT (by omega) ?_
      rw [hd, dc_byte hb]
      refine Ev.bind (ev_inner _) ?_
      rw [hn]
      exact Ev.isT rfl Ev.pure
  intro m
  induction m with
  | zero =>
    intro p hp _ i tail hd hst hi
    obtain rfl := List.length_eq_zero_iff.1 (Nat.le_zero.1 hp)
    exact fin i tail hd hst hi
  | succ m ih =>
    intro p hp hin i tail hd hst hi
    cases hin with
    | nil => exact fin i tail hd hst hi
    | cons hne hr ht =>
      have hw := dc_width p
      have hle := dc_le hne
      have h65 := (inn_low hr).2.1
      have e := dc_app tail hne h65
      have := congrArg List.length hd
      rw [List.length_drop, List.length_append] at this
      refine Ev.step (fun k => by rw [lexer_span_2_l0]) ?_
      simp only [Int.toNat_natCast, runeAt_dc]
      refine Ev.dT (by omega) ?_
      rw [hd, e]
      refine Ev.bind (ev_inner _) ?_
      rw [hr]
      refine Ev.isF rfl ?_
      have nxt := ih (p.drop (dc p).2) (by rw [List.length_drop]; omega) ht (i + (dc p).2) tail (by rw [← List.drop_drop, hd, drop_app hle]) hst (by omega)
      rw [List.length_drop] at nxt
      rw [show i + p.length = i + (dc p).2 + (p.length - (dc p).2) by omega]
      exact nxt
theorem ev_span2 {p tail : List UInt8} (hp : Inn p) (ht : Stop tail) : Ev (fun K => lexer_span_2 K (p ++ tail)) ((p.length : Nat) : Int) := by
  refine Ev.congr (f := fun K => _) ?_ (fun K => by rw [lexer_span_2])
  have := ev_span2_loop (p ++ tail) p.length p (Nat.le_refl _) hp 0 tail rfl ht (by omega)
  simpa using this
theorem ev_blank (r : Int) : Ev (fun K => lexer_Lex_1 K r) (decide (cls r = 3)) := by
  refine Ev.congr (f := fun K => _) ?_ (fun K => by rw [lexer_Lex_1])
  exact Ev.bind (ev_class1 r) Ev.pure
theorem ev_prefix (s x : List UInt8) : Ev (fun K => strings_HasPrefix K s x) (x.isPrefixOf s) := by
  refine Ev.congr (f := fun K => _) ?_ (fun K => by rw [strings_HasPrefix])
  refine Ev.ret ?_
  refine Ev.congr (f := fun K => _) ?_ (fun K => by rw [stringslite_HasPrefix])
  have hb : x.isPrefixOf s = true ↔ x = s.take x.length := by rw [List.isPrefixOf_iff_prefix, List.prefix_iff_eq_take]
  refine Ev.d (fun h => ?_) (fun h => Ev.pure' ?_)
  · refine Ev.opt (a := s.take x.length) ?_ (Ev.pure' ?_)
    · have := subL_ok (l := s) (a := 0) (b := x.length) (by omega) (by omega)
      simpa using this
    · by_cases e : s.take x.length = x
      · rw [decide_eq_true e, hb.2 e.symm]
      · rw [decide_eq_false e]
        cases hx : x.isPrefixOf s with
        | false => rfl
        | true => exact absurd (hb.1 hx).symm e
  · cases hx : x.isPrefixOf s with
    | false => rfl
    | true =>
      have := congrArg List.length (hb.1 hx)
      rw [List.length_take] at this
      omega
theorem ev_first {s : List UInt8} (hs : s ≠ []) : Ev (fun K => lexer_first K s) (((dc s).1 : Nat) : Int) := by
  refine Ev.congr (f := fun K => _) ?_ (fun K => by rw [lexer_first])
  refine Ev.step (fun k => by rw [lexer_first_l0]) ?_
  rw [show (0 : Int).toNat = 0 from rfl, runeAt_dc, List.drop_zero]
  exact Ev.dT (by cases s with | nil => exact absurd rfl hs | cons => simp) Ev.pure
abbrev TokR := Int × List UInt8 × Int × Int × Int × Bool
def fnd (l : List (List UInt8)) (s : List UInt8) : TokR := match l.find? (fun x => x.isPrefixOf s) with
  | some x => (3, x, 0, 0, ((x.length : Nat) : Int), true)
  | none => (0, [], 0, 0, 0, false)
theorem ev_signs_loop (s : List UInt8) (l : List (List UInt8)) (hl : l.length ≤ 1000) : ∀ (m i : Nat), l.length = i + m → Ev (fun K => lexer_token_l0 K s l (i : Int)) (fnd (l.drop i) s) := by
  intro m
  induction m with
  | zero =>
    intro i hi
    refine Ev.step (fun k => by rw [lexer_token_l0]) (Ev.dF (by omega) (Ev.pure' ?_))
    rw [List.drop_of_length_le (by omega)]; rfl
  | succ m ih =>
    intro i hi
    have hlt : i < l.length := by omega
    refine Ev.step (fun k => by rw [lexer_token_l0]) ?_
    refine Ev.dT (by omega) (Ev.opt (getI_lt hlt) (Ev.bind (ev_prefix s _) ?_))
    rw [drop_get hlt]
    unfold fnd
    rw [List.find?_cons]
    cases hx : l[i].isPrefixOf s with
    | true => exact Ev.isT rfl Ev.pure
    | false =>
      refine Ev.isF rfl ?_
      rw [wrap_nat (by omega)]
      exact ih (i + 1) (by omega)
def sgns : List (List UInt8) := (lexer_signs 0).getD []
theorem signs_eq (k : Nat) : lexer_signs k = some sgns := rfl
/-- the end, or a blank -/
def Bl (t : List UInt8) : Prop := t = [] ∨ ∃ r, t = 32 :: r
theorem Bl.stop {t : List UInt8} (h : Bl t) : Stop t := by
  rcases h with h | ⟨r, rfl⟩
  · exact .inl h
  · exact stop_32 r
/-- the number that digits are, and the number of a word -/
def fv (v : Int) (s : List UInt8) : Int := s.foldl (fun v b => 10 * v + ((b.toNat : Int) - 48)) v
def nOf (x : Wd) : Int := if x.1 = 2 then (if x.2.headD 0 = 126 then -(fv 0 (x.2.drop 1)) else fv 0 x.2) else 0
/-- a word that the lexer tells as it is -/
def Tk (x : Wd) : Prop := x.2 ≠ [] ∧ Rk x.2 ∧ x.2.length ≤ 1000 ∧ ∀ tail, tail.length ≤ 1000000 → Bl tail → cls (((dc (x.2 ++ tail)).1 : Nat) : Int) ≠ 3 ∧ List.isPrefixOf [40, 42] (x.2 ++ tail) = false ∧ Ev (fun K => lexer_token K (x.2 ++ tail)) (x.1, x.2, nOf x, 0, ((x.2.length : Nat) : Int), true)
theorem tk_sign {b : UInt8} {w : List UInt8} (hb : b.toNat < 127 ∧ 33 ≤ b.toNat ∧ b.toNat ≠ 126 ∧ cls ((b.toNat : Nat) : Int) = 0) (hw : ∀ c ∈ w, 32 ≤ c.toNat ∧ c.toNat < 127) (hl : w.length ≤ 10)
    (hf : ∀ tail, Bl tail → fnd sgns (b :: w ++ tail) = (3, b :: w, 0, 0, (((b :: w).length : Nat) : Int), true) ∧ List.isPrefixOf [40, 42] (b :: w ++ tail) = false) : Tk (3, b :: w) := by
  refine ⟨by simp, rk_ascii ?_, by simp; omega, fun tail _ ht => ?_⟩
  · intro c hc
    rcases List.mem_cons.1 hc with rfl | hc
    · omega
    · exact hw c hc
  · have e : dc (b :: w ++ tail) = (b.toNat, 1) := dc_byte (by omega)
    obtain ⟨h1, h2⟩ := hf tail ht
    refine ⟨by rw [e]; simp only [hb.2.2.2]; decide, h2, ?_⟩
    refine Ev.congr (f := fun K => _) ?_ (fun K => by rw [lexer_token])
    refine Ev.bind (ev_first (by simp)) ?_
    rw [e]
    refine Ev.bind (ev_class1 _) ?_
    rw [hb.2.2.2]
    refine Ev.dF (by decide) ?_
    refine Ev.dF (by decide) ?_
    refine Ev.opt (a := b) rfl ?_
    refine Ev.dF (by omega) ?_
    refine Ev.opt (signs_eq 0) ?_
    have := ev_signs_loop (b :: w ++ tail) sgns (by decide) sgns.length 0 (by omega)
    rw [List.drop_zero, h1] at this
    exact this
theorem sub0 {l : List UInt8} {a b : List UInt8} (h : l = a ++ b) : subL l 0 ((a.length : Nat) : Int) = some a := by
  subst h
  have := subL_ok (l := a ++ b) (a := 0) (b := a.length) (by omega) (by simp)
  simpa using this
theorem tk_key {w : List UInt8} (hw : w ∈ wrds) (hn : w ≠ []) (ha : ∀ b ∈ w, 97 ≤ b.toNat ∧ b.toNat < 123) (hl : w.length ≤ 100) : Tk (3, w) := by
  have hin := inn_ascii ha
  refine ⟨hn, hin.rk, by simp only; omega, fun tail htl ht => ?_⟩
  obtain ⟨b, w', rfl⟩ : ∃ b w', w = b :: w' := by cases w with | nil => exact absurd rfl hn | cons b w' => exact ⟨b, w', rfl⟩
  have hb := ha b List.mem_cons_self
  have e : dc (b :: w' ++ tail) = (b.toNat, 1) := dc_byte (by omega)
  have hc : cls ((b.toNat : Nat) : Int) = 1 := by unfold cls; rw [if_pos (by omega)]
  refine ⟨by rw [e]; simp only [hc]; decide, ?_, ?_⟩
  · show (40 == b && _) = false
    rw [show ((40 : UInt8) == b) = false from by
      rw [beq_eq_false_iff_ne]; intro h; rw [← h] at hb; exact absurd hb.1 (by decide)]; rfl
  · refine Ev.congr (f := fun K => _) ?_ (fun K => by rw [lexer_token])
    refine Ev.bind (ev_first (by simp)) ?_
    rw [e]
    refine Ev.bind (ev_class1 _) ?_
    rw [hc]
    refine Ev.dT rfl ?_
    refine Ev.bind (a := ((3 : Int), b :: w', (0 : Int), (0 : Int), (((b :: w').length : Nat) : Int), true)) ?_ Ev.pure
    refine Ev.congr (f := fun K => _) ?_ (fun K => by rw [lexer_long])
    refine Ev.bind (ev_span2 hin ht.stop) ?_
    have hs := sub0 (l := b :: w' ++ tail) (a := b :: w') (b := tail) rfl
    refine Ev.opt hs ?_
    refine Ev.bind (ev_word1 _) ?_
    refine Ev.dT hw ?_
    refine Ev.d (fun _ => Ev.opt hs Ev.pure) (fun h => ?_)
    rcases ht with rfl | ⟨r, rfl⟩
    · exact absurd (by simp) h
    · refine Ev.opt (a := 32) ?_ ?_
      · rw [getI_lt (by simp), List.getElem_append_right (Nat.le_refl _)]; simp
      · exact Ev.nT (by decide) (Ev.opt hs Ev.pure)
theorem long_loop (s tail : List UInt8) (ht : Bl tail) (hs : s.length ≤ 2000000) : ∀ (r : List (List UInt8)), (∀ p ∈ r, ckS p = true) → ∀ n : Nat, s.drop n = lj r ++ tail → n ≤ s.length →
    Ev (fun K => lexer_long_l0 K s (n : Int) true) (1, s.take (n + (lj r).length), 0, 0, ((n + (lj r).length : Nat) : Int), decide (((n + (lj r).length : Nat) : Int) ≤ 128)) := by
  intro r
  induction r with
  | nil =>
    intro _ n hd hn
    have hsub : subL s 0 (n : Int) = some (s.take n) := by
      have := subL_ok (l := s) (a := 0) (b := n) (by omega) hn
      simpa using this
    refine Ev.step (fun k => by rw [lexer_long_l0]) ?_
    refine Ev.isT rfl ?_
    show Ev _ (1, s.take n, 0, 0, (n : Int), decide ((n : Int) ≤ 128))
    refine Ev.d (fun h => ?_) (fun h => Ev.opt hsub Ev.pure)
    rcases ht with rfl | ⟨t, rfl⟩
    · have := congrArg List.length hd
      simp [lj] at this
      omega
    · have hlt : n < s.length := by omega
      rw [drop_get hlt] at hd
      have e := (List.cons.inj hd).1
      refine Ev.opt (getI_lt hlt) ?_
      rw [e]
      exact Ev.dF (by decide) (Ev.opt hsub Ev.pure)
  | cons p r ih =>
    intro hck n hd hn
    have hp := ck_parts (hck p List.mem_cons_self)
    have hd' : s.drop n = 46 :: (p ++ (lj r ++ tail)) := by rw [hd]; simp [lj]
    have hll := congrArg List.length hd'
    simp only [List.length_drop, List.length_cons, List.length_append] at hll
    have hlt : n < s.length := by omega
    have hd1 : s.drop (n + 1) = p ++ (lj r ++ tail) := by
      rw [drop_get hlt] at hd'
      exact (List.cons.inj hd').2
    have e : s[n] = 46 := by
      rw [drop_get hlt] at hd'
      exact (List.cons.inj hd').1
    have hsub : subL s ((n + 1 : Nat) : Int) ((s.length : Nat) : Int) = some (p ++ (lj r ++ tail)) := by rw [subD (by omega), hd1]
    have hst : Stop (lj r ++ tail) := by
      cases r with
      | nil => exact ht.stop
      | cons q r => exact stop_46 _
    refine Ev.step (fun k => by rw [lexer_long_l0]) ?_
    refine Ev.isT rfl ?_
    refine Ev.dT (by omega) ?_
    refine Ev.opt (getI_lt hlt) ?_
    rw [e]
    refine Ev.dT (by decide) ?_
    rw [wrap_nat (by omega)]
    refine Ev.opt hsub ?_
    refine Ev.bind (ev_span2 hp.2.2.2.1 hst) ?_
    refine Ev.opt hsub ?_
    refine Ev.opt (sub0 rfl) ?_
    refine Ev.bind (ev_rname p) ?_
    rw [hp.2.1]
    refine Ev.isT rfl ?_
    refine Ev.bind (ev_word1 p) ?_
    rw [decide_eq_false hp.2.2.1]
    rw [wrap_id (x := 1 + ((p.length : Nat) : Int)) (by omega) (by omega), wrap_id (by omega) (by omega)]
    have nxt := ih (fun q hq => hck q (List.mem_cons_of_mem _ hq)) (n + 1 + p.length) (by rw [← List.drop_drop, hd1]; simp) (by omega)
    have hlj : (lj (p :: r)).length = 1 + p.length + (lj r).length := by simp [lj]; omega
    rw [hlj]
    rw [show n + (1 + p.length + (lj r).length) = n + 1 + p.length + (lj r).length by omega, show (n : Int) + (1 + ((p.length : Nat) : Int)) = ((n + 1 + p.length : Nat) : Int) by omega]
    exact nxt
theorem tk_name {s : List UInt8} (h : ∃ p r, s = p ++ lj r ∧ ckS p = true ∧ (∀ q ∈ r, ckS q = true) ∧ s.length ≤ 128) : Tk (1, s) := by
  obtain ⟨p, r, rfl, hp, hr, hl⟩ := h
  have q := ck_parts hp
  refine ⟨by simp [q.1], rk_app q.2.2.2.1.rk (rk_lj hr), by simp only; omega, fun tail htl ht => ?_⟩
  have hc := q.2.2.2.2
  have h65 : (dc p).1 ≠ 65533 := by
    intro e
    rw [e] at hc
    exact absurd hc (by decide)
  have e : dc (p ++ lj r ++ tail) = dc p := by rw [List.append_assoc]; exact dc_app _ q.1 h65
  have hst : Stop (lj r ++ tail) := by
    cases r with
    | nil => exact ht.stop
    | cons q r => exact stop_46 _
  refine ⟨by simp only [e, hc]; decide, ?_, ?_⟩
  · obtain ⟨b, w', rfl⟩ : ∃ b w', p = b :: w' := by cases p with | nil => exact absurd rfl q.1 | cons b w' => exact ⟨b, w', rfl⟩
    show (40 == b && _) = false
    rw [show ((40 : UInt8) == b) = false from by
      rw [beq_eq_false_iff_ne]
      intro h
      subst h
      rw [dc_byte (by decide)] at hc
      exact absurd hc (by decide)]; rfl
  · refine Ev.congr (f := fun K => _) ?_ (fun K => by rw [lexer_token])
    refine Ev.bind (ev_first (by simp [q.1])) ?_
    simp only [e]
    refine Ev.bind (ev_class1 _) ?_
    rw [hc]
    refine Ev.dT rfl ?_
    refine Ev.bind (a := ((1 : Int), p ++ lj r, (0 : Int), (0 : Int), (((p ++ lj r).length : Nat) : Int), true)) ?_ Ev.pure
    refine Ev.congr (f := fun K => _) ?_ (fun K => by rw [lexer_long])
    have hsp := ev_span2 q.2.2.2.1 hst
    rw [← List.append_assoc] at hsp
    refine Ev.bind hsp ?_
    have hs := sub0 (l := p ++ lj r ++ tail) (a := p) (b := lj r ++ tail) (by simp)
    refine Ev.opt hs ?_
    refine Ev.bind (ev_word1 _) ?_
    refine Ev.dF q.2.2.1 ?_
    refine Ev.opt hs ?_
    refine Ev.bind (ev_rname p) ?_
    rw [q.2.1]
    refine Ev.isT rfl ?_
    refine Ev.opt hs ?_
    refine Ev.bind (ev_word1 p) ?_
    rw [decide_eq_false q.2.2.1]
    simp only [List.length_append] at hl
    have := long_loop (p ++ lj r ++ tail) tail ht (by simp; omega) r hr p.length (by simp) (by simp)
    rw [decide_eq_true (by omega), show p.length + (lj r).length = (p ++ lj r).length by simp, List.take_left] at this
    exact this
/-- the words of types -/
def Gd (x : Wd) : Prop := (x.1 = 1 ∧ (lgS x.2 = true ∨ ckS x.2 = true)) ∨ x ∈ ([(3, [45, 62]), (3, [42]), (3, [40]), (3, [41]), (3, [109, 117]), (3, [123]), (3, [125]), (3, [111, 102]), (3, [124]), (3, [105, 110, 116]), (3, [98, 111, 111, 108]), (3, [117, 110, 105, 116])] : List Wd)
theorem Gd.tk {x : Wd} (h : Gd x) : Tk x := by
  rcases h with ⟨h1, h2⟩ | h
  · obtain ⟨k, s⟩ := x
    simp only at h1 h2
    subst h1
    rcases h2 with h2 | h2
    · exact tk_name (lg_parts h2)
    · exact tk_name (ck_one h2)
  · have sg : ∀ {b : UInt8} {w : List UInt8}, (b.toNat < 127 ∧ 33 ≤ b.toNat ∧ b.toNat ≠ 126 ∧ cls ((b.toNat : Nat) : Int) = 0) → (∀ c ∈ w, 32 ≤ c.toNat ∧ c.toNat < 127) → w.length ≤ 10 →
      (fnd sgns (b :: w) = (3, b :: w, 0, 0, (((b :: w).length : Nat) : Int), true) ∧ List.isPrefixOf [40, 42] (b :: w) = false) →
      (∀ t, fnd sgns (b :: w ++ 32 :: t) = (3, b :: w, 0, 0, (((b :: w).length : Nat) : Int), true) ∧ List.isPrefixOf [40, 42] (b :: w ++ 32 :: t) = false) → Tk (3, b :: w) := fun h1 h2 h3 h4 h5 =>
      tk_sign h1 h2 h3 fun tail ht => by
        rcases ht with rfl | ⟨t, rfl⟩
        · rw [List.append_nil]; exact h4
        · exact h5 t
    simp only [List.mem_cons, List.not_mem_nil, or_false] at h
    rcases h with rfl | rfl | rfl | rfl | rfl | rfl | rfl | rfl | rfl | rfl | rfl | rfl
    · exact sg (by decide) (by decide) (by decide) ⟨rfl, rfl⟩ fun t => ⟨rfl, rfl⟩
    · exact sg (by decide) (by decide) (by decide) ⟨rfl, rfl⟩ fun t => ⟨rfl, rfl⟩
    · exact sg (by decide) (by decide) (by decide) ⟨rfl, rfl⟩ fun t => ⟨rfl, rfl⟩
    · exact sg (by decide) (by decide) (by decide) ⟨rfl, rfl⟩ fun t => ⟨rfl, rfl⟩
    · exact tk_key (by decide) (by decide) (by decide) (by decide)
    · exact sg (by decide) (by decide) (by decide) ⟨rfl, rfl⟩ fun t => ⟨rfl, rfl⟩
    · exact sg (by decide) (by decide) (by decide) ⟨rfl, rfl⟩ fun t => ⟨rfl, rfl⟩
    · exact tk_key (by decide) (by decide) (by decide) (by decide)
    · exact sg (by decide) (by decide) (by decide) ⟨rfl, rfl⟩ fun t => ⟨rfl, rfl⟩
    · exact tk_key (by decide) (by decide) (by decide) (by decide)
    · exact tk_key (by decide) (by decide) (by decide) (by decide)
    · exact tk_key (by decide) (by decide) (by decide) (by decide)
end Go.Proofs.YtnogkihchgnbcaaGreatDoor

/- A number's text is told as it is. -/
namespace Go.Proofs.YtnogkihchgnbcaaGreatDoor
open Go Go.Am Go.Sx
def Dg (s : List UInt8) : Prop := ∀ b ∈ s, 48 ≤ b.toNat ∧ b.toNat ≤ 57
theorem fv_ge : ∀ (s : List UInt8) (v : Int), 0 ≤ v → Dg s → v ≤ fv v s
  | [], v, _, _ => Int.le_refl _
  | b :: s, v, h, hd => by
    have hb := hd b List.mem_cons_self
    have := fv_ge s (10 * v + ((b.toNat : Int) - 48)) (by omega) (fun c hc => hd c (List.mem_cons_of_mem _ hc))
    show v ≤ fv (10 * v + ((b.toNat : Int) - 48)) s
    omega
theorem ev_digit (r : Int) : Ev (fun K => lexer_number_1 K r) (decide (cls r = 2)) := by
  refine Ev.congr (f := fun K => _) ?_ (fun K => by rw [lexer_number_1])
  exact Ev.bind (ev_class1 r) Ev.pure
end Go.Proofs.YtnogkihchgnbcaaGreatDoor

/- Expressions as words, and the parser on them. -/
namespace Go.Proofs.YtnogkihchgnbcaaGreatDoor
open Go Go.Am Go.Sx
/-- each token's number is its text's -/
def Nk (l : List Token) : Prop := ∀ k ∈ l, k.2.2.1 = nOf (kt k)
/-- does an atom begin with these words? -/
def sW (m : List Wd) : Bool := match m with
  | x :: _ => if x.1 = 3 then decide (x.2 = [116, 114, 117, 101]) || (decide (x.2 = [102, 97, 108, 115, 101]) || (decide (x.2 = [40]) || (decide (x.2 = [35, 49]) || decide (x.2 = [35, 50]))))
    else if x.1 = 2 then decide (-1073741824 ≤ nOf x) && decide (nOf x ≤ 1073741824) else decide (x.1 = 1) && lgS x.2
  | [] => false
theorem tok_mem {l : List Token} {i : Int} {k : Token} (h : tokAt l i = some k) : k ∈ l := by
  by_cases hi : 0 ≤ i ∧ i < (l.length : Int)
  · obtain ⟨k', hm, _, hk⟩ := tok_some hi
    rw [h] at hk; cases hk; exact hm
  · rw [tok_none hi] at h; cases h
theorem At.start {l : List Token} {i : Nat} {m : List Wd} (hn : Nk l) (h : At l i m) : stS l i = sW m := by
  cases m with
  | nil => unfold stS sW; rw [h.none]
  | cons x m =>
    obtain ⟨k, h1, h2⟩ := h.tok
    have h3 := hn k (tok_mem h1)
    rw [h2] at h3
    have e1 : k.1 = x.1 := congrArg Prod.fst h2
    have e2 : k.2.1 = x.2 := congrArg Prod.snd h2
    unfold stS sW
    rw [h1]
    simp only [e1, e2, h3]
theorem At.len {l : List Token} {i : Nat} {w R : List Wd} (h : At l i (w ++ R)) : w.length ≤ l.length := by
  unfold At at h
  have := congrArg List.length h
  rw [List.length_drop, List.length_map, List.length_append] at this
  omega
theorem ks0 {l : List Token} {i : Nat} : ks l [] i = ((), i, 0) := by rw [ks]
/-- no expression goes on with these words -/
structure St (R : List Wd) : Prop where
  s : sW R = false
  m : kW R [42] = false
  p : kW R [43] = false
  n : kW R [45] = false
  e : kW R [61] = false
  l : kW R [60] = false
def A2 (t : Tr) (w : List Wd) : Prop := ∀ (l : List Token) (i n : Nat) (R : List Wd), Nk l → At l i (w ++ R) → sW R = false → kW R [42] = false → 8 * w.length + 4 ≤ n → ∃ m, n ≤ m + w.length ∧ eSum l n i = eSumL l m t (i + w.length)
theorem sumL_stop {l : List Token} {m i : Nat} {t : Tr} {R : List Wd} (h : At l i R) (hp : kW R [43] = false) (hs : kW R [45] = false) (hm : 1 ≤ m) : eSumL l m t i = (t, i, 0) := by
  obtain ⟨m, rfl⟩ : ∃ q, m = q + 1 := ⟨m - 1, by omega⟩
  rw [eSumL, h.key, hp, if_neg (by simp), h.key, hs, if_neg (by simp)]
section
variable {t : Tr} {w : List Wd} (hw : w ≠ [])
include hw
theorem A2.fin (h : A2 t w) {l : List Token} {i n : Nat} {R : List Wd} (hn : Nk l) (ha : At l i (w ++ R)) (hs : sW R = false) (hm : kW R [42] = false) (hp : kW R [43] = false) (hq : kW R [45] = false) (hf : 8 * w.length + 4 ≤ n) : eSum l n i = (t, i + w.length, 0) := by
  have hl : 1 ≤ w.length := by cases w with | nil => exact absurd rfl hw | cons => simp
  obtain ⟨m, h1, h2⟩ := h l i n R hn ha hs hm hf
  rw [h2, sumL_stop ha.app hp hq (by omega)]
end
/-! ### the forms -/
end Go.Proofs.YtnogkihchgnbcaaGreatDoor

/- A type is written as its words. -/
namespace Go.Proofs.YtnogkihchgnbcaaGreatDoor
open Go Go.Am Go.Sx
/-- constructors, their types and words -/
abbrev CW := List UInt8 × Tr × List Wd
def cTr (x : CW) : Tr := .node 8 0 x.1 [] [x.2.1]
abbrev bar : List UInt8 := [32, 124, 32]
def cT (x : CW) : List UInt8 := x.1 ++ [32, 111, 102, 32] ++ jn x.2.2
end Go.Proofs.YtnogkihchgnbcaaGreatDoor

/- Expressions that have a form: their words, written and parsed. -/
namespace Go.Proofs.YtnogkihchgnbcaaGreatDoor
open Go Go.Am Go.Sx
/-- how long a tree's text may be -/
def tl : Tr → Nat
  | .nil => 0
  | .node k _ nm mk ks => if k ≤ 8 then 200 * (1 + wL ks) else 30 + (nm.length + mk.length) + go ks
where go : List Tr → Nat
  | [] => 0
  | x :: r => tl x + go r
abbrev tlL := tl.go
/-- how many words a tree may have -/
def wc : Tr → Nat
  | .nil => 0
  | .node k _ _ _ ks => if k ≤ 8 then 8 * (1 + wL ks) else (if k ≤ 23 then 2 else 8) + go ks
where go : List Tr → Nat
  | [] => 0
  | x :: r => wc x + go r
abbrev wcL := wc.go
theorem tlL_nil : tlL [] = 0 := by simp [tl.go]
theorem tlL_cons (x : Tr) (r : List Tr) : tlL (x :: r) = tl x + tlL r := by simp [tl.go]
theorem wcL_nil : wcL [] = 0 := by simp [wc.go]
theorem wcL_cons (x : Tr) (r : List Tr) : wcL (x :: r) = wc x + wcL r := by simp [wc.go]
theorem tl_node {k n : Int} {nm mk : List UInt8} {ks : List Tr} (h : ¬ k ≤ 8) : tl (.node k n nm mk ks) = 30 + (nm.length + mk.length) + tlL ks := by rw [tl, if_neg h]
theorem wc_leaf {k n : Int} {nm mk : List UInt8} {ks : List Tr} (h : ¬ k ≤ 8) (h2 : k ≤ 23) : wc (.node k n nm mk ks) = 2 + wcL ks := by rw [wc, if_neg h, if_pos h2]
theorem wc_node {k n : Int} {nm mk : List UInt8} {ks : List Tr} (h : ¬ k ≤ 8) (h2 : ¬ k ≤ 23) : wc (.node k n nm mk ks) = 8 + wcL ks := by rw [wc, if_neg h, if_neg h2]
theorem ty_kind {t : Tr} (h : isT 1 t = true) : ∃ k n nm mk ks, t = .node k n nm mk ks ∧ k ≤ 8 := by
  obtain ⟨k, n, nm, mk, ks, rfl⟩ := node_of h
  refine ⟨k, n, nm, mk, ks, rfl, ?_⟩
  rcases kind1 h with rfl | rfl | rfl | rfl | rfl | rfl | rfl <;> decide
theorem tl_ty {t : Tr} (h : isT 1 t = true) : tl t = 200 * t.w := by
  obtain ⟨k, n, nm, mk, ks, rfl, hk⟩ := ty_kind h
  rw [tl, if_pos hk, w_node]
theorem wc_ty {t : Tr} (h : isT 1 t = true) : wc t = 8 * t.w := by
  obtain ⟨k, n, nm, mk, ks, rfl, hk⟩ := ty_kind h
  rw [wc, if_pos hk, w_node]
/-! ### out of a rule's answer all looser ones -/
end Go.Proofs.YtnogkihchgnbcaaGreatDoor

/- What is parsed has a type's form. -/
namespace Go.Proofs.YtnogkihchgnbcaaGreatDoor
open Go Go.Am Go.Sx
theorem consGo_snoc (f : Tr → Bool) (k : Tr) : ∀ (l : List Tr) (s : List (List UInt8)), consGo f s (l ++ [k]) = (consGo f s l && (f k && !decide (nameOf k ∈ s ++ l.map nameOf)))
  | [], s => by simp [consGo]
  | x :: l, s => by
    rw [List.cons_append]
    unfold consGo
    rw [consGo_snoc f k l]
    simp [Bool.and_assoc]
theorem name_ck {l : List Token} {i : Int} (h : (nameS l i).2 = true) : ckS (nameS l i).1 = true := by
  unfold nameS at h ⊢
  generalize tokAt l i = o at h ⊢
  cases o with
  | none => cases h
  | some k =>
    simp only at h ⊢
    split at h
    · rename_i hc
      rw [if_pos hc]; exact hc.2
    · cases h
theorem long_lg {l : List Token} {i : Int} (h : (longS l i).2 = true) : lgS (longS l i).1 = true := by
  unfold longS at h ⊢
  generalize tokAt l i = o at h ⊢
  cases o with
  | none => cases h
  | some k =>
    simp only at h ⊢
    split at h
    · rename_i hc
      rw [if_pos hc]; exact hc.2
    · cases h
theorem good0 {k : Int} {nm : List UInt8} {ks : List Tr} (h1 : nm.length ≤ 1000) (h2 : ks.length ≤ 1000000) (h3 : ∀ x ∈ ks, Good x) : Good (.node k 0 nm [] ks) := .mk (by omega) (by simp) (by omega) h3
theorem isT_two {k : Int} (hk : k = 5 ∨ k = 6) {a b : Tr} (ha : isT 1 a = true) (hb : isT 1 b = true) : isT 1 (.node k 0 [] [] [a, b]) = true := by
  rcases hk with rfl | rfl
  · rw [isT_row (r := (1, 5, [], [], 0, 0, [116, 116])) rfl]
    simp [bodyS, wordS_e, kidsS_2 (a := 116) (b := 116) (c := 1) (d := 1) (by decide) (by decide) (by decide) (by decide) (by decide) (by decide) rfl rfl, k2S, ha, hb]
  · rw [isT_row (r := (1, 6, [], [], 0, 0, [116, 116])) rfl]
    simp [bodyS, wordS_e, kidsS_2 (a := 116) (b := 116) (c := 1) (d := 1) (by decide) (by decide) (by decide) (by decide) (by decide) (by decide) rfl rfl, k2S, ha, hb]
theorem isT_mu {nm : List UInt8} {ks : List Tr} (hn : ckS nm = true) (hc : consGo (isT 8) [] ks = true) (h0 : ks ≠ []) : isT 1 (.node 7 0 nm [] ks) = true := by
  rw [isT_row (r := (1, 7, [110], [], 0, 0, [67])) rfl]
  have e67 : kidsS isT [67] ks = (consGo (isT 8) [] ks && decide (0 < ks.length)) := rfl
  have hp : 0 < ks.length := List.length_pos_iff.2 h0
  simp [bodyS, wordS_e, wordS_n, e67, hn, hc, hp]
theorem isT_c {nm : List UInt8} {t : Tr} (hn : ckS nm = true) (ht : isT 1 t = true) : isT 8 (.node 8 0 nm [] [t]) = true := by
  rw [isT_con]
  simp [bareS, hn, ht, k1S]
section
variable (l : List Token)
theorem pf_all : ∀ n, n ≤ 100000 → ∀ i, (∀ t j, typS l n i = (t, j, 0) → isT 1 t = true ∧ Good t) ∧ (∀ t j, prodS l n i = (t, j, 0) → isT 1 t = true ∧ Good t) ∧ (∀ t j, atomS l n i = (t, j, 0) → isT 1 t = true ∧ Good t) ∧
    (∀ out c j, consS l n i out = (c, j, 0) → consGo (isT 8) [] out = true → (∀ x ∈ out, Good x) → consGo (isT 8) [] c = true ∧ c ≠ [] ∧ (∀ x ∈ c, Good x) ∧ c.length ≤ out.length + n) := by
  intro n
  induction n with
  | zero =>
    intro _ i
    refine ⟨fun t j h => ?_, fun t j h => ?_, fun t j h => ?_, fun out c j h => ?_⟩
    · rw [typS] at h; simp at h
    · rw [prodS] at h; simp at h
    · rw [atomS] at h; simp at h
    · rw [consS] at h; simp at h
  | succ n ih =>
    intro hn i
    have ih := ih (by omega)
    refine ⟨fun t j h => ?_, fun t j h => ?_, fun t j h => ?_, fun out c j h hco hgo => ?_⟩
    · rw [typS] at h
      have h1 := (ih i).2.1
      generalize prodS l n i = g at *
      obtain ⟨a, j1, e1⟩ := g
      simp only at h
      by_cases he : e1 = 0
      · subst he
        rw [if_pos rfl] at h
        obtain ⟨a1, a2⟩ := h1 a j1 rfl
        by_cases hk : keyS l (j1 : Int) [45, 62] = true
        · rw [if_pos hk] at h
          have h2 := (ih (j1 + 1)).1
          generalize typS l n (j1 + 1) = g at *
          obtain ⟨b, j2, e2⟩ := g
          simp only [Prod.mk.injEq] at h
          obtain ⟨h3, h4, h5⟩ := h
          subst h5
          obtain ⟨b1, b2⟩ := h2 b j2 rfl
          rw [if_pos rfl] at h3
          subst h3
          exact ⟨isT_two (.inl rfl) a1 b1, good0 (by simp) (by simp) (by simp [a2, b2])⟩
        · rw [if_neg hk] at h
          simp only [Prod.mk.injEq] at h
          obtain ⟨rfl, _, _⟩ := h
          exact ⟨a1, a2⟩
      · rw [if_neg he] at h
        simp only [Prod.mk.injEq] at h
        exact absurd h.2.2 he
    · rw [prodS] at h
      have h1 := (ih i).2.2.1
      generalize atomS l n i = g at *
      obtain ⟨a, j1, e1⟩ := g
      simp only at h
      by_cases he : e1 = 0
      · subst he
        rw [if_pos rfl] at h
        obtain ⟨a1, a2⟩ := h1 a j1 rfl
        by_cases hk : keyS l (j1 : Int) [42] = true
        · rw [if_pos hk] at h
          have h2 := (ih (j1 + 1)).2.1
          generalize prodS l n (j1 + 1) = g at *
          obtain ⟨b, j2, e2⟩ := g
          simp only [Prod.mk.injEq] at h
          obtain ⟨h3, h4, h5⟩ := h
          subst h5
          obtain ⟨b1, b2⟩ := h2 b j2 rfl
          rw [if_pos rfl] at h3
          subst h3
          exact ⟨isT_two (.inr rfl) a1 b1, good0 (by simp) (by simp) (by simp [a2, b2])⟩
        · rw [if_neg hk] at h
          simp only [Prod.mk.injEq] at h
          obtain ⟨rfl, _, _⟩ := h
          exact ⟨a1, a2⟩
      · rw [if_neg he] at h
        simp only [Prod.mk.injEq] at h
        exact absurd h.2.2 he
    · rw [atomS] at h
      by_cases c1 : (longS l (i : Int)).2 = true
      · rw [if_pos c1] at h
        simp only [Prod.mk.injEq] at h
        obtain ⟨rfl, _, _⟩ := h
        have hl := long_lg c1
        have hll := lg_len hl
        refine ⟨?_, good0 (by omega) (by simp) (by simp)⟩
        rw [isT_row (r := (1, 4, [108], [], 0, 0, [])) rfl]
        simp [bodyS, wordS_e, wordS_l, kidsS, hl]
      rw [if_neg c1] at h
      by_cases c2 : keyS l (i : Int) [105, 110, 116] = true
      · rw [if_pos c2] at h
        simp only [Prod.mk.injEq] at h
        obtain ⟨rfl, _, _⟩ := h
        refine ⟨?_, good0 (by simp) (by simp) (by simp)⟩
        rw [isT_row (r := (1, 1, [], [], 0, 0, [])) rfl]
        simp [bodyS, wordS_e, kidsS]
      rw [if_neg c2] at h
      by_cases c3 : keyS l (i : Int) [98, 111, 111, 108] = true
      · rw [if_pos c3] at h
        simp only [Prod.mk.injEq] at h
        obtain ⟨rfl, _, _⟩ := h
        refine ⟨?_, good0 (by simp) (by simp) (by simp)⟩
        rw [isT_row (r := (1, 2, [], [], 0, 0, [])) rfl]
        simp [bodyS, wordS_e, kidsS]
      rw [if_neg c3] at h
      by_cases c4 : keyS l (i : Int) [117, 110, 105, 116] = true
      · rw [if_pos c4] at h
        simp only [Prod.mk.injEq] at h
        obtain ⟨rfl, _, _⟩ := h
        refine ⟨?_, good0 (by simp) (by simp) (by simp)⟩
        rw [isT_row (r := (1, 3, [], [], 0, 0, [])) rfl]
        simp [bodyS, wordS_e, kidsS]
      rw [if_neg c4] at h
      by_cases c5 : keyS l (i : Int) [40] = true
      · rw [if_pos c5] at h
        have h1 := (ih (i + 1)).1
        generalize typS l n (i + 1) = g at *
        obtain ⟨a, j1, e1⟩ := g
        simp only at h
        by_cases he : e1 = 0
        · subst he
          rw [if_pos rfl] at h
          obtain ⟨a1, a2⟩ := h1 a j1 rfl
          by_cases hk : keyS l (j1 : Int) [41] = true
          · rw [if_pos hk] at h
            simp only [Prod.mk.injEq] at h
            obtain ⟨rfl, _, _⟩ := h
            exact ⟨a1, a2⟩
          · rw [if_neg hk] at h
            simp at h
        · rw [if_neg he] at h
          simp only [Prod.mk.injEq] at h
          exact absurd h.2.2 he
      rw [if_neg c5] at h
      by_cases c6 : keyS l (i : Int) [109, 117] = true
      · rw [if_pos c6] at h
        by_cases c7 : (nameS l ((i + 1 : Nat) : Int)).2 = true
        · rw [if_pos c7] at h
          by_cases c8 : keyS l ((i + 2 : Nat) : Int) [123] = true
          · rw [if_pos c8] at h
            have hck := name_ck c7
            have h1 := (ih (i + 3)).2.2.2 []
            generalize consS l n (i + 3) [] = g at *
            obtain ⟨c, j1, e1⟩ := g
            simp only at h
            by_cases he : e1 = 0
            · subst he
              rw [if_pos rfl] at h
              obtain ⟨a1, a2, a3, a4⟩ := h1 c j1 rfl rfl (by simp)
              by_cases hk : keyS l (j1 : Int) [125] = true
              · rw [if_pos hk] at h
                simp only [Prod.mk.injEq] at h
                obtain ⟨rfl, _, _⟩ := h
                exact ⟨isT_mu hck a1 a2, good0 (by have := ck_len hck; omega) (by simp at a4; omega) a3⟩
              · rw [if_neg hk] at h
                simp at h
            · rw [if_neg he] at h
              simp only [Prod.mk.injEq] at h
              exact absurd h.2.2 he
          · rw [if_neg c8] at h
            simp at h
        · rw [if_neg c7] at h
          simp at h
      · rw [if_neg c6] at h
        simp at h
    · rw [consS] at h
      by_cases c1 : (nameS l (i : Int)).2 = true
      · rw [if_pos c1] at h
        have hck := name_ck c1
        by_cases c2 : (nameS l (i : Int)).1 ∈ out.map nameOf
        · rw [if_pos c2] at h
          simp at h
        rw [if_neg c2] at h
        generalize (nameS l (i : Int)).1 = s at *
        by_cases c3 : keyS l ((i + 1 : Nat) : Int) [111, 102] = true
        · rw [if_pos c3] at h
          have h1 := (ih (i + 2)).1
          generalize typS l n (i + 2) = g at *
          obtain ⟨a, j1, e1⟩ := g
          simp only at h
          by_cases he : e1 = 0
          · subst he
            rw [if_pos rfl] at h
            obtain ⟨a1, a2⟩ := h1 a j1 rfl
            have hco' : consGo (isT 8) [] (out ++ [.node 8 0 s [] [a]]) = true := by
              rw [consGo_snoc, hco, isT_c hck a1, List.nil_append, show nameOf (Tr.node 8 0 s [] [a]) = s from rfl, decide_eq_false c2]; rfl
            have hgo' : ∀ x ∈ out ++ [Tr.node 8 0 s [] [a]], Good x := fun x hx => by
              rcases List.mem_append.1 hx with hx | hx
              · exact hgo x hx
              · rw [List.mem_singleton.1 hx]
                exact good0 (by have := ck_len hck; omega) (by simp) (by simp [a2])
            by_cases hk : keyS l (j1 : Int) [124] = true
            · rw [if_pos hk] at h
              obtain ⟨b1, b2, b3, b4⟩ := (ih (j1 + 1)).2.2.2 _ c j h hco' hgo'
              exact ⟨b1, b2, b3, by simp at b4; omega⟩
            · rw [if_neg hk] at h
              simp only [Prod.mk.injEq] at h
              obtain ⟨rfl, _, _⟩ := h
              exact ⟨hco', by simp, hgo', by simp⟩
          · rw [if_neg he] at h
            simp only [Prod.mk.injEq] at h
            exact absurd h.2.2 he
        · rw [if_neg c3] at h
          simp at h
      · rw [if_neg c1] at h
        simp at h
end
end Go.Proofs.YtnogkihchgnbcaaGreatDoor

/- What is parsed has an expression's form; how long its text, how many its words may be. Printed by gen7/y6.py. -/
namespace Go.Proofs.YtnogkihchgnbcaaGreatDoor
open Go Go.Am Go.Sx
theorem mk2 {k n : Int} {nm mk : List UInt8} {ks : List Tr} {r : Row} (h : sel 2 k = [r]) (hb : bodyS isT n nm mk ks r = true) (hn : nm.length ≤ 1000) (hm : mk.length ≤ 1000) (hl : ks.length ≤ 1000000) (hk : ∀ x ∈ ks, Good x) : isT 2 (.node k n nm mk ks) = true ∧ Good (.node k n nm mk ks) :=
  ⟨by rw [isT_row h]; exact hb, .mk (by omega) (by omega) (by omega) hk⟩
section
variable {a b c t : Tr} {s : List UInt8}
theorem good1 (ga : Good a) : ∀ x ∈ [a], Good x := fun x hx => (List.mem_singleton.1 hx) ▸ ga
theorem good2 (ga : Good a) (gb : Good b) : ∀ x ∈ [a, b], Good x := fun x hx => by
  rcases List.mem_cons.1 hx with rfl | hx
  · exact ga
  · exact (List.mem_singleton.1 hx) ▸ gb
theorem mk_int {n : Int} (h : -1073741824 ≤ n ∧ n ≤ 1073741824) : isT 2 (.node 20 n [] [] []) = true ∧ Good (.node 20 n [] [] []) := by
  refine mk2 (r := (2, 20, [], [], -1073741824, 1073741824, [])) rfl ?_ (by simp) (by simp) (by simp) (fun x hx => by cases hx)
  show (true && (true && (decide (-1073741824 ≤ n) && (decide (n ≤ 1073741824) && true)))) = true
  rw [decide_eq_true h.1, decide_eq_true h.2]; rfl
theorem mk_bool {n : Int} (h : n = 0 ∨ n = 1) : isT 2 (.node 21 n [] [] []) = true ∧ Good (.node 21 n [] [] []) := by
  refine mk2 (r := (2, 21, [], [], 0, 1, [])) rfl ?_ (by simp) (by simp) (by simp) (fun x hx => by cases hx)
  show (true && (true && (decide (0 ≤ n) && (decide (n ≤ 1) && true)))) = true
  rw [decide_eq_true (by omega), decide_eq_true (by omega)]; rfl
theorem mk_unit : isT 2 (.node 22 0 [] [] []) = true ∧ Good (.node 22 0 [] [] []) := mk2 (r := (2, 22, [], [], 0, 0, [])) rfl rfl (by simp) (by simp) (by simp) (fun x hx => by cases hx)
theorem mk_var (h : lgS s = true) : isT 2 (.node 23 0 s [] []) = true ∧ Good (.node 23 0 s [] []) := by
  have := lg_len h
  refine mk2 (r := (2, 23, [108], [], 0, 0, [])) rfl ?_ (by omega) (by simp) (by simp) (fun x hx => by cases hx)
  show (lgS s && true) = true
  rw [h]; rfl
theorem mk_lam (hs : ckS s = true) (ht : isT 1 t = true) (gt : Good t) (hb : isT 2 b = true) (gb : Good b) : isT 2 (.node 24 0 s [] [t, b]) = true ∧ Good (.node 24 0 s [] [t, b]) := by
  have := ck_len hs
  refine mk2 (r := (2, 24, [110], [], 0, 0, [116, 101])) rfl ?_ (by omega) (by simp) (by simp) (good2 gt gb)
  show (ckS s && (true && (true && (true && (isT 1 t && (isT 2 b && true)))))) = true
  rw [hs, ht, hb]; rfl
theorem mk_app (ha : isT 2 a = true) (ga : Good a) (hb : isT 2 b = true) (gb : Good b) : isT 2 (.node 25 0 [] [] [a, b]) = true ∧ Good (.node 25 0 [] [] [a, b]) := by
  refine mk2 (r := (2, 25, [], [], 0, 0, [101, 101])) rfl ?_ (by simp) (by simp) (by simp) (good2 ga gb)
  show (true && (true && (true && (true && (isT 2 a && (isT 2 b && true)))))) = true
  rw [ha, hb]; rfl
theorem mk_pair (ha : isT 2 a = true) (ga : Good a) (hb : isT 2 b = true) (gb : Good b) : isT 2 (.node 26 0 [] [] [a, b]) = true ∧ Good (.node 26 0 [] [] [a, b]) := by
  refine mk2 (r := (2, 26, [], [], 0, 0, [101, 101])) rfl ?_ (by simp) (by simp) (by simp) (good2 ga gb)
  show (true && (true && (true && (true && (isT 2 a && (isT 2 b && true)))))) = true
  rw [ha, hb]; rfl
theorem mk_fst (ha : isT 2 a = true) (ga : Good a) : isT 2 (.node 27 0 [] [] [a]) = true ∧ Good (.node 27 0 [] [] [a]) := by
  refine mk2 (r := (2, 27, [], [], 0, 0, [101])) rfl ?_ (by simp) (by simp) (by simp) (good1 ga)
  show (true && (true && (true && (true && (isT 2 a && true))))) = true
  rw [ha]; rfl
theorem mk_snd (ha : isT 2 a = true) (ga : Good a) : isT 2 (.node 28 0 [] [] [a]) = true ∧ Good (.node 28 0 [] [] [a]) := by
  refine mk2 (r := (2, 28, [], [], 0, 0, [101])) rfl ?_ (by simp) (by simp) (by simp) (good1 ga)
  show (true && (true && (true && (true && (isT 2 a && true))))) = true
  rw [ha]; rfl
theorem mk_let (hs : ckS s = true) (ha : isT 2 a = true) (ga : Good a) (hb : isT 2 b = true) (gb : Good b) : isT 2 (.node 29 0 s [] [a, b]) = true ∧ Good (.node 29 0 s [] [a, b]) := by
  have := ck_len hs
  refine mk2 (r := (2, 29, [110], [], 0, 0, [101, 101])) rfl ?_ (by omega) (by simp) (by simp) (good2 ga gb)
  show (ckS s && (true && (true && (true && (isT 2 a && (isT 2 b && true)))))) = true
  rw [hs, ha, hb]; rfl
theorem mk_if (ha : isT 2 a = true) (ga : Good a) (hb : isT 2 b = true) (gb : Good b) (hc : isT 2 c = true) (gc : Good c) : isT 2 (.node 30 0 [] [] [a, b, c]) = true ∧ Good (.node 30 0 [] [] [a, b, c]) := by
  refine mk2 (r := (2, 30, [], [], 0, 0, [101, 101, 101])) rfl ?_ (by simp) (by simp) (by simp) (fun x hx => ?_)
  · show (true && (true && (true && (true && (isT 2 a && (isT 2 b && (isT 2 c && true))))))) = true
    rw [ha, hb, hc]; rfl
  · rcases List.mem_cons.1 hx with rfl | hx
    · exact ga
    · exact good2 gb gc x hx
theorem mk_op {n : Int} (h : 1 ≤ n ∧ n ≤ 5) (ha : isT 2 a = true) (ga : Good a) (hb : isT 2 b = true) (gb : Good b) : isT 2 (opN n a b) = true ∧ Good (opN n a b) := by
  refine mk2 (r := (2, 31, [], [], 1, 5, [101, 101])) rfl ?_ (by simp) (by simp) (by simp) (good2 ga gb)
  show (true && (true && (decide (1 ≤ n) && (decide (n ≤ 5) && (isT 2 a && (isT 2 b && true)))))) = true
  rw [ha, hb, decide_eq_true h.1, decide_eq_true h.2]; rfl
/-- arms that have a form -/
def ArmL (r : List Tr) : Prop := ∀ y ∈ r, isT 9 y = true ∧ Good y
theorem arm_all {r : List Tr} (h : ArmL r) : r.all (isT 9) = true := List.all_eq_true.2 fun y hy => (h y hy).1
theorem mk_case {r : List Tr} (ha : isT 2 a = true) (ga : Good a) (hr : ArmL r) (h0 : 0 < r.length) (hl : r.length ≤ 20000) : isT 2 (.node 32 0 [] [] (a :: r)) = true ∧ Good (.node 32 0 [] [] (a :: r)) := by
  refine mk2 (r := (2, 32, [], [], 0, 0, [101, 65])) rfl ?_ (by simp) (by simp) (by simp; omega) (fun x hx => ?_)
  · show (true && (true && (true && (true && (isT 2 a && (r.all (isT 9) && decide (0 < r.length))))))) = true
    rw [ha, arm_all hr, decide_eq_true h0]; rfl
  · rcases List.mem_cons.1 hx with rfl | hx
    · exact ga
    · exact (hr x hx).2
theorem mk_fold {r : List Tr} (ha : isT 2 a = true) (ga : Good a) (ht : isT 1 t = true) (gt : Good t) (hr : ArmL r) (h0 : 0 < r.length) (hl : r.length ≤ 20000) : isT 2 (.node 33 0 [] [] (a :: t :: r)) = true ∧ Good (.node 33 0 [] [] (a :: t :: r)) := by
  refine mk2 (r := (2, 33, [], [], 0, 0, [101, 116, 65])) rfl ?_ (by simp) (by simp) (by simp; omega) (fun x hx => ?_)
  · show (true && (true && (true && (true && (isT 2 a && (isT 1 t && (r.all (isT 9) && decide (0 < r.length)))))))) = true
    rw [ha, ht, arm_all hr, decide_eq_true h0]; rfl
  · rcases List.mem_cons.1 hx with rfl | hx
    · exact ga
    · rcases List.mem_cons.1 hx with rfl | hx
      · exact gt
      · exact (hr x hx).2
theorem mk_arm {x : List UInt8} (hs : ckS s = true) (hx : ckS x = true) (ha : isT 2 a = true) (ga : Good a) : isT 9 (.node 34 0 s x [a]) = true ∧ Good (.node 34 0 s x [a]) := by
  have := ck_len hs
  have := ck_len hx
  refine ⟨?_, .mk (by omega) (by omega) (by simp) (good1 ga)⟩
  rw [isT_row (r := (9, 34, [110], [110], 0, 0, [101])) rfl]
  show (ckS s && (ckS x && (true && (true && (isT 2 a && true))))) = true
  rw [hs, hx, ha]; rfl
end
theorem yes_at {α : Type} {a : α} {j : Nat} {p : α → Nat → Prop} (h : p a j) : Yes (a, j, 0) p := fun _ => h
theorem tl_op {n : Int} {a b : Tr} : tl (opN n a b) = 30 + tl a + tl b := by unfold opN; rw [tl_node (by decide), tlL_cons, tlL_cons, tlL_nil]; simp; omega
theorem wc_op {n : Int} {a b : Tr} : wc (opN n a b) = 8 + wc a + wc b := by unfold opN; rw [wc_node (by decide) (by decide), wcL_cons, wcL_cons, wcL_nil]; omega
/-- what is told of an expression between two places -/
def FE (i0 : Nat) (t : Tr) (j : Nat) : Prop := isT 2 t = true ∧ Good t ∧ tl t + 36 + 200 * i0 ≤ 200 * j ∧ wc t + 8 + 12 * i0 ≤ 12 * j
def FT (i0 : Nat) (t : Tr) (j : Nat) : Prop := isT 1 t = true ∧ Good t ∧ 200 * t.w + 200 * i0 ≤ 200 * j ∧ 8 * t.w + 8 * i0 ≤ 8 * j
def FA (i0 : Nat) (out r : List Tr) (j : Nat) : Prop := ArmL r ∧ out.length < r.length ∧ tlL r + 200 * i0 ≤ tlL out + 200 * j ∧ (wcL r + 12 * i0 ≤ wcL out + 12 * j ∧ r.length + i0 ≤ out.length + j)
theorem tlL_app : ∀ (a b : List Tr), tlL (a ++ b) = tlL a + tlL b
  | [], b => by rw [tlL_nil]; simp
  | x :: a, b => by rw [List.cons_append, tlL_cons, tlL_cons, tlL_app a b]; omega
theorem wcL_app : ∀ (a b : List Tr), wcL (a ++ b) = wcL a + wcL b
  | [], b => by rw [wcL_nil]; simp
  | x :: a, b => by rw [List.cons_append, wcL_cons, wcL_cons, wcL_app a b]; omega
theorem nm_ck {l : List Token} {i : Nat} (h : (nmR l i).2.2 = 0) : ckS (nmR l i).1 = true := by
  unfold nmR at h ⊢
  by_cases hk : (nameS l (i : Int)).2 = true
  · rw [if_pos hk]; exact name_ck hk
  · rw [if_neg hk] at h; exact absurd (show (6 : Int) = 0 from h) (by decide)
section
variable {l : List Token} (hl : l.length ≤ 20000)
include hl
theorem ty_fm {i : Nat} (hi : i ≤ l.length) : Yes (tyR l i) (FT i) := by
  intro h
  obtain ⟨h2, h3⟩ := ty_bd hl hi
  have hf := (pf_all l (3 * l.length + 3) (by omega) i).1
  unfold tyR at h ⊢
  generalize typS l (3 * l.length + 3) i = g at *
  obtain ⟨t, j, e⟩ := g
  have h : e = 0 := h
  subst h
  obtain ⟨f1, f2⟩ := hf t j rfl
  have := (h3 rfl).2
  exact ⟨f1, f2, by simp only at *; omega, by simp only at *; omega⟩
theorem e_fm : ∀ n i, i ≤ l.length → Yes (eExpr l n i) (FE i) ∧ (∀ out, ArmL out → out.length ≤ i → Yes (eArms l n out i) (FA i out)) ∧ Yes (eCmp l n i) (FE i) ∧ Yes (eSum l n i) (FE i) ∧ (∀ i0 a, FE i0 a i → Yes (eSumL l n a i) (FE i0)) ∧
    Yes (eTerm l n i) (FE i) ∧ (∀ i0 a, FE i0 a i → Yes (eTermL l n a i) (FE i0)) ∧ Yes (eApp l n i) (FE i) ∧ (∀ i0 a, FE i0 a i → Yes (eAppL l n a i) (FE i0)) ∧ Yes (eAtom l n i) (FE i) := by
  intro n
  induction n with
  | zero =>
    intro i hi
    have no : ∀ {α : Type} {d : α} {j : Nat} {p : α → Nat → Prop}, Yes (d, j, 6) p := fun h => absurd (show (6 : Int) = 0 from h) (by decide)
    refine ⟨?_, fun out _ _ => ?_, ?_, ?_, fun i0 a _ => ?_, ?_, fun i0 a _ => ?_, ?_, fun i0 a _ => ?_, ?_⟩
    · rw [eExpr]; exact no
    · rw [eArms]; exact no
    · rw [eCmp]; exact no
    · rw [eSum]; exact no
    · rw [eSumL]; exact no
    · rw [eTerm]; exact no
    · rw [eTermL]; exact no
    · rw [eApp]; exact no
    · rw [eAppL]; exact no
    · rw [eAtom]; exact no
  | succ n ih =>
    intro i hi
    have ihE : ∀ j, j ≤ l.length → Yes (eExpr l n j) (FE j) := fun j h => (ih j h).1
    have ihA : ∀ j, j ≤ l.length → ∀ out, ArmL out → out.length ≤ j → Yes (eArms l n out j) (FA j out) := fun j h => (ih j h).2.1
    have ihC : ∀ j, j ≤ l.length → Yes (eCmp l n j) (FE j) := fun j h => (ih j h).2.2.1
    have ihS : ∀ j, j ≤ l.length → Yes (eSum l n j) (FE j) := fun j h => (ih j h).2.2.2.1
    have ihSL : ∀ j, j ≤ l.length → ∀ i0 a, FE i0 a j → Yes (eSumL l n a j) (FE i0) := fun j h => (ih j h).2.2.2.2.1
    have ihT : ∀ j, j ≤ l.length → Yes (eTerm l n j) (FE j) := fun j h => (ih j h).2.2.2.2.2.1
    have ihTL : ∀ j, j ≤ l.length → ∀ i0 a, FE i0 a j → Yes (eTermL l n a j) (FE i0) := fun j h => (ih j h).2.2.2.2.2.2.1
    have ihP : ∀ j, j ≤ l.length → Yes (eApp l n j) (FE j) := fun j h => (ih j h).2.2.2.2.2.2.2.1
    have ihPL : ∀ j, j ≤ l.length → ∀ i0 a, FE i0 a j → Yes (eAppL l n a j) (FE i0) := fun j h => (ih j h).2.2.2.2.2.2.2.2.1
    have ihO : ∀ j, j ≤ l.length → Yes (eAtom l n j) (FE j) := fun j h => (ih j h).2.2.2.2.2.2.2.2.2
    refine ⟨?_, fun out ho hol => ?_, ?_, ?_, fun i0 a hfa => ?_, ?_, fun i0 a hfa => ?_, ?_, fun i0 a hfa => ?_, ?_⟩
    · rw [eExpr]
      by_cases k_fn : keyS l (i : Int) [102, 110] = true
      · rw [if_pos k_fn]
        have hin := key_in k_fn
        have b := bw_ks l [[40]] (i + 1) (by omega)
        generalize ks l [[40]] (i + 1) = g1 at *
        obtain ⟨g1a, g1b⟩ := b
        refine yes_bnd fun h1 => ?_
        have b := bw_nm (l := l) (i := g1.2.1) (by omega)
        have sN := nm_at (l := l) (i := g1.2.1)
        have cN := nm_ck (l := l) (i := g1.2.1)
        generalize nmR l (g1.2.1) = g2 at *
        obtain ⟨g2a, g2b⟩ := b
        refine yes_bnd fun h2 => ?_
        have sN := sN h2
        have c2 := cN h2
        have n2 := ck_len c2
        have b := bw_ks l [[58]] (g2.2.1) (by omega)
        generalize ks l [[58]] (g2.2.1) = g3 at *
        obtain ⟨g3a, g3b⟩ := b
        refine yes_bnd fun h3 => ?_
        have b := ty_pz hl (i := g3.2.1) (by omega)
        have f := ty_fm hl (i := g3.2.1) (by omega)
        generalize tyR l (g3.2.1) = g4 at *
        obtain ⟨g4a, g4b, _⟩ := b
        refine yes_bnd fun h4 => ?_
        obtain ⟨g4t, g4g, g4l, g4w⟩ := f h4
        have b := bw_ks l [[41], [61, 62]] (g4.2.1) (by omega)
        generalize ks l [[41], [61, 62]] (g4.2.1) = g5 at *
        obtain ⟨g5a, g5b⟩ := b
        refine yes_bnd fun h5 => ?_
        have b := e_bd_eExpr hl n (g5.2.1) (by omega)
        have f := ihE (g5.2.1) (by omega)
        generalize eExpr l n (g5.2.1) = g6 at *
        obtain ⟨g6a, g6b, _⟩ := b
        refine yes_bnd fun h6 => ?_
        obtain ⟨g6t, g6g, g6l, g6w⟩ := f h6
        have m := mk_lam c2 g4t g4g g6t g6g
        exact yes_at ⟨m.1, m.2, by rw [tl_node (by decide), tlL_cons, tlL_cons, tlL_nil, tl_ty g4t]; simp only [List.length_nil]; omega, by rw [wc_node (by decide) (by decide), wcL_cons, wcL_cons, wcL_nil, wc_ty g4t]; omega⟩
      rw [if_neg k_fn]
      by_cases k_let : keyS l (i : Int) [108, 101, 116] = true
      · rw [if_pos k_let]
        have hin := key_in k_let
        have b := bw_nm (l := l) (i := i + 1) (by omega)
        have sN := nm_at (l := l) (i := i + 1)
        have cN := nm_ck (l := l) (i := i + 1)
        generalize nmR l (i + 1) = g1 at *
        obtain ⟨g1a, g1b⟩ := b
        refine yes_bnd fun h1 => ?_
        have sN := sN h1
        have c1 := cN h1
        have n1 := ck_len c1
        have b := bw_ks l [[61]] (g1.2.1) (by omega)
        generalize ks l [[61]] (g1.2.1) = g2 at *
        obtain ⟨g2a, g2b⟩ := b
        refine yes_bnd fun h2 => ?_
        have b := e_bd_eExpr hl n (g2.2.1) (by omega)
        have f := ihE (g2.2.1) (by omega)
        generalize eExpr l n (g2.2.1) = g3 at *
        obtain ⟨g3a, g3b, _⟩ := b
        refine yes_bnd fun h3 => ?_
        obtain ⟨g3t, g3g, g3l, g3w⟩ := f h3
        have b := bw_ks l [[105, 110]] (g3.2.1) (by omega)
        generalize ks l [[105, 110]] (g3.2.1) = g4 at *
        obtain ⟨g4a, g4b⟩ := b
        refine yes_bnd fun h4 => ?_
        have b := e_bd_eExpr hl n (g4.2.1) (by omega)
        have f := ihE (g4.2.1) (by omega)
        generalize eExpr l n (g4.2.1) = g5 at *
        obtain ⟨g5a, g5b, _⟩ := b
        refine yes_bnd fun h5 => ?_
        obtain ⟨g5t, g5g, g5l, g5w⟩ := f h5
        have b := bw_ks l [[101, 110, 100]] (g5.2.1) (by omega)
        generalize ks l [[101, 110, 100]] (g5.2.1) = g6 at *
        obtain ⟨g6a, g6b⟩ := b
        refine yes_bnd fun h6 => ?_
        have m := mk_let c1 g3t g3g g5t g5g
        exact yes_at ⟨m.1, m.2, by rw [tl_node (by decide), tlL_cons, tlL_cons, tlL_nil]; simp only [List.length_nil]; omega, by rw [wc_node (by decide) (by decide), wcL_cons, wcL_cons, wcL_nil]; omega⟩
      rw [if_neg k_let]
      by_cases k_if : keyS l (i : Int) [105, 102] = true
      · rw [if_pos k_if]
        have hin := key_in k_if
        have b := e_bd_eExpr hl n (i + 1) (by omega)
        have f := ihE (i + 1) (by omega)
        generalize eExpr l n (i + 1) = g1 at *
        obtain ⟨g1a, g1b, _⟩ := b
        refine yes_bnd fun h1 => ?_
        obtain ⟨g1t, g1g, g1l, g1w⟩ := f h1
        have b := bw_ks l [[116, 104, 101, 110]] (g1.2.1) (by omega)
        generalize ks l [[116, 104, 101, 110]] (g1.2.1) = g2 at *
        obtain ⟨g2a, g2b⟩ := b
        refine yes_bnd fun h2 => ?_
        have b := e_bd_eExpr hl n (g2.2.1) (by omega)
        have f := ihE (g2.2.1) (by omega)
        generalize eExpr l n (g2.2.1) = g3 at *
        obtain ⟨g3a, g3b, _⟩ := b
        refine yes_bnd fun h3 => ?_
        obtain ⟨g3t, g3g, g3l, g3w⟩ := f h3
        have b := bw_ks l [[101, 108, 115, 101]] (g3.2.1) (by omega)
        generalize ks l [[101, 108, 115, 101]] (g3.2.1) = g4 at *
        obtain ⟨g4a, g4b⟩ := b
        refine yes_bnd fun h4 => ?_
        have b := e_bd_eExpr hl n (g4.2.1) (by omega)
        have f := ihE (g4.2.1) (by omega)
        generalize eExpr l n (g4.2.1) = g5 at *
        obtain ⟨g5a, g5b, _⟩ := b
        refine yes_bnd fun h5 => ?_
        obtain ⟨g5t, g5g, g5l, g5w⟩ := f h5
        have m := mk_if g1t g1g g3t g3g g5t g5g
        exact yes_at ⟨m.1, m.2, by rw [tl_node (by decide), tlL_cons, tlL_cons, tlL_cons, tlL_nil]; simp only [List.length_nil]; omega, by rw [wc_node (by decide) (by decide), wcL_cons, wcL_cons, wcL_cons, wcL_nil]; omega⟩
      rw [if_neg k_if]
      by_cases k_case : keyS l (i : Int) [99, 97, 115, 101] = true
      · rw [if_pos k_case]
        have hin := key_in k_case
        have b := e_bd_eExpr hl n (i + 1) (by omega)
        have f := ihE (i + 1) (by omega)
        generalize eExpr l n (i + 1) = g1 at *
        obtain ⟨g1a, g1b, _⟩ := b
        refine yes_bnd fun h1 => ?_
        obtain ⟨g1t, g1g, g1l, g1w⟩ := f h1
        have b := bw_ks l [[111, 102]] (g1.2.1) (by omega)
        generalize ks l [[111, 102]] (g1.2.1) = g2 at *
        obtain ⟨g2a, g2b⟩ := b
        refine yes_bnd fun h2 => ?_
        have b := e_bd_eArms hl n [] (g2.2.1) (by omega)
        have f := ihA (g2.2.1) (by omega) [] (fun y hy => by cases hy) (by simp)
        generalize eArms l n [] (g2.2.1) = g3 at *
        obtain ⟨g3a, g3b, _⟩ := b
        refine yes_bnd fun h3 => ?_
        obtain ⟨g3t, g3n, g3l, g3w, g3m⟩ := f h3
        rw [List.length_nil] at g3m
        rw [tlL_nil] at g3l
        rw [wcL_nil] at g3w
        rw [List.length_nil] at g3n
        have m := mk_case g1t g1g g3t (by omega) (by omega)
        exact yes_at ⟨m.1, m.2, by rw [tl_node (by decide), tlL_cons]; simp only [List.length_nil]; omega, by rw [wc_node (by decide) (by decide), wcL_cons]; omega⟩
      rw [if_neg k_case]
      by_cases k_fold : keyS l (i : Int) [102, 111, 108, 100] = true
      · rw [if_pos k_fold]
        have hin := key_in k_fold
        have b := e_bd_eExpr hl n (i + 1) (by omega)
        have f := ihE (i + 1) (by omega)
        generalize eExpr l n (i + 1) = g1 at *
        obtain ⟨g1a, g1b, _⟩ := b
        refine yes_bnd fun h1 => ?_
        obtain ⟨g1t, g1g, g1l, g1w⟩ := f h1
        have b := bw_ks l [[116, 111]] (g1.2.1) (by omega)
        generalize ks l [[116, 111]] (g1.2.1) = g2 at *
        obtain ⟨g2a, g2b⟩ := b
        refine yes_bnd fun h2 => ?_
        have b := ty_pz hl (i := g2.2.1) (by omega)
        have f := ty_fm hl (i := g2.2.1) (by omega)
        generalize tyR l (g2.2.1) = g3 at *
        obtain ⟨g3a, g3b, _⟩ := b
        refine yes_bnd fun h3 => ?_
        obtain ⟨g3t, g3g, g3l, g3w⟩ := f h3
        have b := bw_ks l [[111, 102]] (g3.2.1) (by omega)
        generalize ks l [[111, 102]] (g3.2.1) = g4 at *
        obtain ⟨g4a, g4b⟩ := b
        refine yes_bnd fun h4 => ?_
        have b := e_bd_eArms hl n [] (g4.2.1) (by omega)
        have f := ihA (g4.2.1) (by omega) [] (fun y hy => by cases hy) (by simp)
        generalize eArms l n [] (g4.2.1) = g5 at *
        obtain ⟨g5a, g5b, _⟩ := b
        refine yes_bnd fun h5 => ?_
        obtain ⟨g5t, g5n, g5l, g5w, g5m⟩ := f h5
        rw [List.length_nil] at g5m
        rw [tlL_nil] at g5l
        rw [wcL_nil] at g5w
        rw [List.length_nil] at g5n
        have m := mk_fold g1t g1g g3t g3g g5t (by omega) (by omega)
        exact yes_at ⟨m.1, m.2, by rw [tl_node (by decide), tlL_cons, tlL_cons, tl_ty g3t]; simp only [List.length_nil]; omega, by rw [wc_node (by decide) (by decide), wcL_cons, wcL_cons, wc_ty g3t]; omega⟩
      rw [if_neg k_fold]
      exact ihC i hi
    · rw [eArms]
      have b := bw_nm (l := l) (i := i) (by omega)
      have sN := nm_at (l := l) (i := i)
      have cN := nm_ck (l := l) (i := i)
      generalize nmR l (i) = g1 at *
      obtain ⟨g1a, g1b⟩ := b
      refine yes_bnd fun h1 => ?_
      have sN := sN h1
      have c1 := cN h1
      have n1 := ck_len c1
      have b := bw_nm (l := l) (i := g1.2.1) (by omega)
      have sN := nm_at (l := l) (i := g1.2.1)
      have cN := nm_ck (l := l) (i := g1.2.1)
      generalize nmR l (g1.2.1) = g2 at *
      obtain ⟨g2a, g2b⟩ := b
      refine yes_bnd fun h2 => ?_
      have sN := sN h2
      have c2 := cN h2
      have n2 := ck_len c2
      have b := bw_ks l [[61, 62]] (g2.2.1) (by omega)
      generalize ks l [[61, 62]] (g2.2.1) = g3 at *
      obtain ⟨g3a, g3b⟩ := b
      refine yes_bnd fun h3 => ?_
      have b := e_bd_eExpr hl n (g3.2.1) (by omega)
      have f := ihE (g3.2.1) (by omega)
      generalize eExpr l n (g3.2.1) = g4 at *
      obtain ⟨g4a, g4b, _⟩ := b
      refine yes_bnd fun h4 => ?_
      obtain ⟨g4t, g4g, g4l, g4w⟩ := f h4
      have m := mk_arm c1 c2 g4t g4g
      have harm : ArmL (out ++ [.node 34 0 g1.1 g2.1 [g4.1]]) := fun y hy => by
        rcases List.mem_append.1 hy with hy | hy
        · exact ho y hy
        · rw [List.mem_singleton.1 hy]; exact m
      have hlen : (out ++ [Tr.node 34 0 g1.1 g2.1 [g4.1]]).length = out.length + 1 := by simp
      have ht : tlL (out ++ [.node 34 0 g1.1 g2.1 [g4.1]]) = tlL out + (30 + (g1.1.length + g2.1.length) + tl g4.1) := by rw [tlL_app, tlL_cons, tlL_nil, tl_node (by decide), tlL_cons, tlL_nil]; omega
      have hw : wcL (out ++ [.node 34 0 g1.1 g2.1 [g4.1]]) = wcL out + (8 + wc g4.1) := by rw [wcL_app, wcL_cons, wcL_nil, wc_node (by decide) (by decide), wcL_cons, wcL_nil]; omega
      by_cases kb : keyS l (g4.2.1 : Int) [124] = true
      · rw [if_pos kb]
        have hin := key_in kb
        have f := ihA (g4.2.1 + 1) (by omega) _ harm (by omega)
        intro h
        obtain ⟨f1, f2, f3, f4, f5⟩ := f h
        exact ⟨f1, by omega, by omega, by omega, by omega⟩
      · rw [if_neg kb]
        have b := bw_ks l [[101, 110, 100]] g4.2.1 (by omega)
        generalize ks l [[101, 110, 100]] g4.2.1 = g5 at *
        obtain ⟨g5a, g5b⟩ := b
        refine yes_bnd fun h5 => ?_
        exact yes_at ⟨harm, by omega, by omega, by omega, by omega⟩
    · rw [eCmp]
      have b := e_bd_eSum hl n (i) (by omega)
      have f := ihS (i) (by omega)
      generalize eSum l n (i) = g1 at *
      obtain ⟨g1a, g1b, _⟩ := b
      refine yes_bnd fun h1 => ?_
      obtain ⟨g1t, g1g, g1l, g1w⟩ := f h1
      by_cases k4 : keyS l (g1.2.1 : Int) [61] = true
      · rw [if_pos k4]
        have hin := key_in k4
        have b := e_bd_eSum hl n (g1.2.1 + 1) (by omega)
        have f := ihS (g1.2.1 + 1) (by omega)
        generalize eSum l n (g1.2.1 + 1) = g2 at *
        obtain ⟨g2a, g2b, _⟩ := b
        refine yes_bnd fun h2 => ?_
        obtain ⟨g2t, g2g, g2l, g2w⟩ := f h2
        have m := mk_op (n := 4) (by decide) g1t g1g g2t g2g
        exact yes_at ⟨m.1, m.2, by rw [tl_op]; omega, by rw [wc_op]; omega⟩
      rw [if_neg k4]
      by_cases k5 : keyS l (g1.2.1 : Int) [60] = true
      · rw [if_pos k5]
        have hin := key_in k5
        have b := e_bd_eSum hl n (g1.2.1 + 1) (by omega)
        have f := ihS (g1.2.1 + 1) (by omega)
        generalize eSum l n (g1.2.1 + 1) = g2 at *
        obtain ⟨g2a, g2b, _⟩ := b
        refine yes_bnd fun h2 => ?_
        obtain ⟨g2t, g2g, g2l, g2w⟩ := f h2
        have m := mk_op (n := 5) (by decide) g1t g1g g2t g2g
        exact yes_at ⟨m.1, m.2, by rw [tl_op]; omega, by rw [wc_op]; omega⟩
      rw [if_neg k5]
      exact yes_at ⟨g1t, g1g, g1l, g1w⟩
    · rw [eSum]
      have b := e_bd_eTerm hl n (i) (by omega)
      have f := ihT (i) (by omega)
      generalize eTerm l n (i) = g1 at *
      obtain ⟨g1a, g1b, _⟩ := b
      refine yes_bnd fun h1 => ?_
      obtain ⟨g1t, g1g, g1l, g1w⟩ := f h1
      exact ihSL g1.2.1 (by omega) i g1.1 ⟨g1t, g1g, g1l, g1w⟩
    · rw [eSumL]
      obtain ⟨a1, a2, a3, a4⟩ := hfa
      by_cases k0 : keyS l (i : Int) [43] = true
      · rw [if_pos k0]
        have hin := key_in k0
        have b := e_bd_eTerm hl n (i + 1) (by omega)
        have f := ihT (i + 1) (by omega)
        generalize eTerm l n (i + 1) = g1 at *
        obtain ⟨g1a, g1b, _⟩ := b
        refine yes_bnd fun h1 => ?_
        obtain ⟨g1t, g1g, g1l, g1w⟩ := f h1
        have m := mk_op (n := 1) (by decide) a1 a2 g1t g1g
        exact ihSL g1.2.1 (by omega) i0 _ ⟨m.1, m.2, by rw [tl_op]; omega, by rw [wc_op]; omega⟩
      rw [if_neg k0]
      by_cases k1 : keyS l (i : Int) [45] = true
      · rw [if_pos k1]
        have hin := key_in k1
        have b := e_bd_eTerm hl n (i + 1) (by omega)
        have f := ihT (i + 1) (by omega)
        generalize eTerm l n (i + 1) = g1 at *
        obtain ⟨g1a, g1b, _⟩ := b
        refine yes_bnd fun h1 => ?_
        obtain ⟨g1t, g1g, g1l, g1w⟩ := f h1
        have m := mk_op (n := 2) (by decide) a1 a2 g1t g1g
        exact ihSL g1.2.1 (by omega) i0 _ ⟨m.1, m.2, by rw [tl_op]; omega, by rw [wc_op]; omega⟩
      rw [if_neg k1]
      exact yes_at ⟨a1, a2, a3, a4⟩
    · rw [eTerm]
      have b := e_bd_eApp hl n (i) (by omega)
      have f := ihP (i) (by omega)
      generalize eApp l n (i) = g1 at *
      obtain ⟨g1a, g1b, _⟩ := b
      refine yes_bnd fun h1 => ?_
      obtain ⟨g1t, g1g, g1l, g1w⟩ := f h1
      exact ihTL g1.2.1 (by omega) i g1.1 ⟨g1t, g1g, g1l, g1w⟩
    · rw [eTermL]
      obtain ⟨a1, a2, a3, a4⟩ := hfa
      by_cases k0 : keyS l (i : Int) [42] = true
      · rw [if_pos k0]
        have hin := key_in k0
        have b := e_bd_eApp hl n (i + 1) (by omega)
        have f := ihP (i + 1) (by omega)
        generalize eApp l n (i + 1) = g1 at *
        obtain ⟨g1a, g1b, _⟩ := b
        refine yes_bnd fun h1 => ?_
        obtain ⟨g1t, g1g, g1l, g1w⟩ := f h1
        have m := mk_op (n := 3) (by decide) a1 a2 g1t g1g
        exact ihTL g1.2.1 (by omega) i0 _ ⟨m.1, m.2, by rw [tl_op]; omega, by rw [wc_op]; omega⟩
      rw [if_neg k0]
      exact yes_at ⟨a1, a2, a3, a4⟩
    · rw [eApp]
      have b := e_bd_eAtom hl n (i) (by omega)
      have f := ihO (i) (by omega)
      generalize eAtom l n (i) = g1 at *
      obtain ⟨g1a, g1b, _⟩ := b
      refine yes_bnd fun h1 => ?_
      obtain ⟨g1t, g1g, g1l, g1w⟩ := f h1
      exact ihPL g1.2.1 (by omega) i g1.1 ⟨g1t, g1g, g1l, g1w⟩
    · rw [eAppL]
      obtain ⟨a1, a2, a3, a4⟩ := hfa
      by_cases k0 : stS l i = true
      · rw [if_pos k0]
        have hin := st_in k0
        have b := e_bd_eAtom hl n (i) (by omega)
        have f := ihO (i) (by omega)
        generalize eAtom l n (i) = g1 at *
        obtain ⟨g1a, g1b, _⟩ := b
        refine yes_bnd fun h1 => ?_
        obtain ⟨g1t, g1g, g1l, g1w⟩ := f h1
        have m := mk_app a1 a2 g1t g1g
        exact ihPL g1.2.1 (by omega) i0 _ ⟨m.1, m.2, by rw [tl_node (by decide), tlL_cons, tlL_cons, tlL_nil]; simp only [List.length_nil]; omega, by rw [wc_node (by decide) (by decide), wcL_cons, wcL_cons, wcL_nil]; omega⟩
      rw [if_neg k0]
      exact yes_at ⟨a1, a2, a3, a4⟩
    · rw [eAtom]
      by_cases ks0 : stS l i = true
      · rw [if_pos ks0]
        have hin := st_in ks0
        obtain ⟨k, _, _, hk⟩ := tok_some (l := l) (i := (i : Int)) (by omega)
        unfold stS at ks0
        rw [hk] at ks0 ⊢
        simp only at ks0 ⊢
        by_cases c0 : k.1 = 2
        · rw [if_pos c0]
          rw [if_neg (by omega), if_pos c0, Bool.and_eq_true] at ks0
          have hb : -1073741824 ≤ k.2.2.1 ∧ k.2.2.1 ≤ 1073741824 := ⟨of_decide_eq_true ks0.1, of_decide_eq_true ks0.2⟩
          exact yes_at ⟨(mk_int hb).1, (mk_int hb).2, by rw [tl_node (by decide), tlL_nil]; simp only [List.length_nil]; omega, by rw [wc_leaf (by decide) (by decide), wcL_nil]; omega⟩
        rw [if_neg c0]
        by_cases c1 : k.1 = 1
        · rw [if_pos c1]
          rw [if_neg (by omega), if_neg c0, Bool.and_eq_true] at ks0
          have hn := lg_len ks0.2
          exact yes_at ⟨(mk_var ks0.2).1, (mk_var ks0.2).2, by rw [tl_node (by decide), tlL_nil]; simp only [List.length_nil]; omega, by rw [wc_leaf (by decide) (by decide), wcL_nil]; omega⟩
        rw [if_neg c1]
        by_cases c2 : k.2.1 = [116, 114, 117, 101]
        · rw [if_pos c2]
          exact yes_at ⟨(mk_bool (.inr rfl)).1, (mk_bool (.inr rfl)).2, by rw [tl_node (by decide), tlL_nil]; simp only [List.length_nil]; omega, by rw [wc_leaf (by decide) (by decide), wcL_nil]; omega⟩
        rw [if_neg c2]
        by_cases c3 : k.2.1 = [102, 97, 108, 115, 101]
        · rw [if_pos c3]
          exact yes_at ⟨(mk_bool (.inl rfl)).1, (mk_bool (.inl rfl)).2, by rw [tl_node (by decide), tlL_nil]; simp only [List.length_nil]; omega, by rw [wc_leaf (by decide) (by decide), wcL_nil]; omega⟩
        rw [if_neg c3]
        by_cases c4 : k.2.1 = [35, 49]
        · rw [if_pos c4]
          have b := e_bd_eAtom hl n (i + 1) (by omega)
          have f := ihO (i + 1) (by omega)
          generalize eAtom l n (i + 1) = g1 at *
          obtain ⟨g1a, g1b, _⟩ := b
          refine yes_bnd fun h1 => ?_
          obtain ⟨g1t, g1g, g1l, g1w⟩ := f h1
          have m := mk_fst g1t g1g
          exact yes_at ⟨m.1, m.2, by rw [tl_node (by decide), tlL_cons, tlL_nil]; simp only [List.length_nil]; omega, by rw [wc_node (by decide) (by decide), wcL_cons, wcL_nil]; omega⟩
        rw [if_neg c4]
        by_cases c5 : k.2.1 = [35, 50]
        · rw [if_pos c5]
          have b := e_bd_eAtom hl n (i + 1) (by omega)
          have f := ihO (i + 1) (by omega)
          generalize eAtom l n (i + 1) = g1 at *
          obtain ⟨g1a, g1b, _⟩ := b
          refine yes_bnd fun h1 => ?_
          obtain ⟨g1t, g1g, g1l, g1w⟩ := f h1
          have m := mk_snd g1t g1g
          exact yes_at ⟨m.1, m.2, by rw [tl_node (by decide), tlL_cons, tlL_nil]; simp only [List.length_nil]; omega, by rw [wc_node (by decide) (by decide), wcL_cons, wcL_nil]; omega⟩
        rw [if_neg c5]
        by_cases c6 : keyS l ((i + 1 : Nat) : Int) [41] = true
        · rw [if_pos c6]
          exact yes_at ⟨(mk_unit).1, (mk_unit).2, by rw [tl_node (by decide), tlL_nil]; simp only [List.length_nil]; omega, by rw [wc_leaf (by decide) (by decide), wcL_nil]; omega⟩
        rw [if_neg c6]
        have b := e_bd_eExpr hl n (i + 1) (by omega)
        have f := ihE (i + 1) (by omega)
        generalize eExpr l n (i + 1) = g1 at *
        obtain ⟨g1a, g1b, _⟩ := b
        refine yes_bnd fun h1 => ?_
        obtain ⟨g1t, g1g, g1l, g1w⟩ := f h1
        by_cases c7 : keyS l (g1.2.1 : Int) [44] = true
        · rw [if_pos c7]
          have hin7 := key_in c7
          have b := e_bd_eExpr hl n (g1.2.1 + 1) (by omega)
          have f := ihE (g1.2.1 + 1) (by omega)
          generalize eExpr l n (g1.2.1 + 1) = g2 at *
          obtain ⟨g2a, g2b, _⟩ := b
          refine yes_bnd fun h2 => ?_
          obtain ⟨g2t, g2g, g2l, g2w⟩ := f h2
          have b := bw_ks l [[41]] (g2.2.1) (by omega)
          generalize ks l [[41]] (g2.2.1) = g3 at *
          obtain ⟨g3a, g3b⟩ := b
          refine yes_bnd fun h3 => ?_
          have m := mk_pair g1t g1g g2t g2g
          exact yes_at ⟨m.1, m.2, by rw [tl_node (by decide), tlL_cons, tlL_cons, tlL_nil]; simp only [List.length_nil]; omega, by rw [wc_node (by decide) (by decide), wcL_cons, wcL_cons, wcL_nil]; omega⟩
        rw [if_neg c7]
        have b := bw_ks l [[41]] (g1.2.1) (by omega)
        generalize ks l [[41]] (g1.2.1) = g2 at *
        obtain ⟨g2a, g2b⟩ := b
        refine yes_bnd fun h2 => ?_
        exact yes_at ⟨g1t, g1g, by omega, by omega⟩
      · rw [if_neg ks0]; exact fun h => absurd (show (6 : Int) = 0 from h) (by decide)
end
end Go.Proofs.YtnogkihchgnbcaaGreatDoor

