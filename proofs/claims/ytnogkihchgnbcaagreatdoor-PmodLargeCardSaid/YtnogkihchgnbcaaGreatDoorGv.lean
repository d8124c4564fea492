/- Joined texts: N1, X5, X6, X7, N2. -/
import Derived.Test.YtnogkihchgnbcaaGreatDoorGp
import Derived.Test.YtnogkihchgnbcaaGreatDoorGw
/- A number's text: the program's and the document's are the same. -/
namespace Go.Proofs.YtnogkihchgnbcaaGreatDoor
open Go Go.Am Go.Sx
def dgt (d : Nat) : UInt8 := UInt8.ofNat (48 + d)
/-- the digits of a number -/
def digF : Nat → Nat → List UInt8
  | 0, _ => []
  | f + 1, n => if n < 10 then [dgt n] else digF f (n / 10) ++ [dgt (n % 10)]
def dig (n : Nat) : List UInt8 := digF (n + 1) n
theorem digF_eq : ∀ (f g n : Nat), n < f → n < g → digF f n = digF g n
  | 0, _, _, h, _ => by omega
  | _ + 1, 0, _, _, h => by omega
  | f + 1, g + 1, n, h1, h2 => by
    unfold digF
    by_cases h : n < 10
    · rw [if_pos h, if_pos h]
    · rw [if_neg h, if_neg h, digF_eq f g (n / 10) (by omega) (by omega)]
theorem dig_small {n : Nat} (h : n < 10) : dig n = [dgt n] := by unfold dig digF; rw [if_pos h]
theorem dig_big {n : Nat} (h : ¬ n < 10) : dig n = dig (n / 10) ++ [dgt (n % 10)] := by
  rw [dig, digF, if_neg h, dig, digF_eq n (n / 10 + 1) (n / 10) (by omega) (by omega)]
/-- a number's text -/
def numS (n : Int) : List UInt8 := (if n < 0 then [126] else []) ++ dig n.natAbs
/-! ### the program's: digits from the last one on, turned round -/
theorem wrapU64 {x : Int} (h1 : 0 ≤ x) (h2 : x ≤ 18446744073709551615) : IntKind.u64.wrap x = x := by
  show (if (false && decide (x % 18446744073709551616 ≥ 9223372036854775808)) = true then x % 18446744073709551616 - 18446744073709551616 else x % 18446744073709551616) = x
  simp only [Bool.false_and, Bool.false_eq_true, if_false]
  omega
theorem wrapU64n {x : Int} (h1 : x < 0) (h2 : -18446744073709551616 ≤ x) : IntKind.u64.wrap x = x + 18446744073709551616 := by
  show (if (false && decide (x % 18446744073709551616 ≥ 9223372036854775808)) = true then x % 18446744073709551616 - 18446744073709551616 else x % 18446744073709551616) = _
  simp only [Bool.false_and, Bool.false_eq_true, if_false]
  omega
theorem ev_rev : ∀ (b : Nat) (A M B : List Int), M.length ≤ b → A.length + M.length + B.length ≤ 1000 → Ev (fun K => slices_Reverse_l0 K (A ++ M ++ B) (A.length : Int) ((A.length : Int) + (M.length : Int) - 1)) (A ++ M.reverse ++ B) := by
  intro b
  induction b with
  | zero =>
    intro A M B hb hl
    have e : M = [] := List.length_eq_zero_iff.1 (by omega)
    subst e
    refine Ev.step (fun k => by rw [slices_Reverse_l0]) ?_
    exact Ev.dF (by simp; omega) (Ev.pure' (by simp))
  | succ b ih =>
    intro A M B hb hl
    match M, hb, hl with
    | [], _, _ =>
      refine Ev.step (fun k => by rw [slices_Reverse_l0]) ?_
      exact Ev.dF (by simp; omega) (Ev.pure' (by simp))
    | [x], _, _ =>
      refine Ev.step (fun k => by rw [slices_Reverse_l0]) ?_
      exact Ev.dF (by simp) (Ev.pure' (by simp))
    | x :: x' :: r, hb, hl =>
      obtain ⟨M', y, hM⟩ : ∃ M' y, x' :: r = M' ++ [y] := ⟨(x' :: r).dropLast, (x' :: r).getLast (by simp), (List.dropLast_concat_getLast (by simp)).symm⟩
      rw [hM] at hb hl ⊢
      have hlen : (A ++ (x :: (M' ++ [y])) ++ B).length = A.length + M'.length + 2 + B.length := by simp; omega
      simp only [List.length_cons, List.length_append, List.length_nil] at hb hl
      have ej : (A.length : Int) + ((x :: (M' ++ [y])).length : Nat) - 1 = ((A.length + M'.length + 1 : Nat) : Int) := by simp; omega
      rw [ej]
      refine Ev.step (fun k => by rw [slices_Reverse_l0]) ?_
      refine Ev.dT (by omega) ?_
      have gy : getI (A ++ (x :: (M' ++ [y])) ++ B) ((A.length + M'.length + 1 : Nat) : Int) = some y := by
        rw [getI_nat, show A ++ (x :: (M' ++ [y])) ++ B = (A ++ x :: M') ++ (y :: B) by simp, List.getElem?_append_right (by simp; omega)]
        simp [show A.length + M'.length + 1 - (A.length + (M'.length + 1)) = 0 by omega]
      have gx : getI (A ++ (x :: (M' ++ [y])) ++ B) (A.length : Int) = some x := by
        rw [getI_nat, List.append_assoc, List.getElem?_append_right (by omega)]
        simp
      have s1 : (A ++ (x :: (M' ++ [y])) ++ B).set A.length y = A ++ (y :: (M' ++ [y])) ++ B := by
        rw [List.append_assoc, List.set_append_right _ _ (by omega)]
        simp
      have s2 : (A ++ (y :: (M' ++ [y])) ++ B).set (A.length + M'.length + 1) x = (A ++ [y]) ++ M' ++ (x :: B) := by
        rw [show A ++ (y :: (M' ++ [y])) ++ B = (A ++ y :: M') ++ (y :: B) by simp, List.set_append_right _ _ (by simp; omega)]
        simp [show A.length + M'.length + 1 - (A.length + (M'.length + 1)) = 0 by omega]
      refine Ev.iteT ⟨by omega, by rw [hlen]; omega⟩ ?_
      refine Ev.opt gy ?_
      refine Ev.iteT ⟨by omega, by rw [hlen]; omega⟩ ?_
      refine Ev.opt gx ?_
      refine Ev.iteT ⟨by omega, by rw [hlen]; omega⟩ ?_
      refine Ev.opt gx ?_
      rw [show ((A.length : Int)).toNat = A.length by omega, show (((A.length + M'.length + 1 : Nat) : Int)).toNat = A.length + M'.length + 1 by omega, s1, s2]
      refine Ev.iteT ⟨by omega, by simp; omega⟩ ?_
      refine Ev.opt (a := y) ?_ ?_
      · rw [getI_nat, show A ++ (y :: (M' ++ [y])) ++ B = (A ++ y :: M') ++ (y :: B) by simp, List.getElem?_append_right (by simp; omega)]
        simp [show A.length + M'.length + 1 - (A.length + (M'.length + 1)) = 0 by omega]
      · rw [wrap_nat (by omega), wrap_id (by omega) (by omega)]
        have := ih (A ++ [y]) M' (x :: B) (by omega) (by simp; omega)
        rw [show ((A.length + M'.length + 1 : Nat) : Int) - 1 = ((A ++ [y]).length : Nat) + (M'.length : Int) - 1 by simp; omega, show ((A.length + 1 : Nat) : Int) = ((A ++ [y]).length : Nat) by simp]
        refine Ev.cast this ?_
        simp
theorem ev_Reverse (l : List Int) (h : l.length ≤ 1000) (h1 : 1 ≤ l.length) : Ev (fun K => slices_Reverse K l) l.reverse := by
  refine Ev.congr (f := fun K => _) ?_ (fun k => by rw [slices_Reverse])
  have := ev_rev l.length [] l [] (Nat.le_refl _) (by simp; omega)
  rw [wrap_id (by omega) (by omega)]
  simpa using this
/-- the digits from the last one on -/
def rdgF : Nat → Nat → List Int
  | 0, _ => []
  | f + 1, n => ((48 + n % 10 : Nat) : Int) :: (if n < 10 then [] else rdgF f (n / 10))
theorem rdgF_dig : ∀ (f n : Nat), n < 10 ^ f → 1 ≤ f → encB (rdgF f n).reverse = dig n
  | 0, _, _, h => by omega
  | f + 1, n, h, _ => by
    unfold rdgF
    by_cases h10 : n < 10
    · rw [if_pos h10, dig_small h10, Nat.mod_eq_of_lt h10]; rfl
    · rw [if_neg h10, dig_big h10]
      have hf : 1 ≤ f := by
        cases f with
        | zero => simp at h; omega
        | succ f => omega
      have := rdgF_dig f (n / 10) (by rw [Nat.pow_succ] at h; omega) hf
      simp only [encB] at this
      simp only [encB, List.reverse_cons, List.map_append, this, List.map_cons, List.map_nil]
      rfl
theorem ev_Number_l0 (sign : List UInt8) (hs : sign.length ≤ 10) : ∀ (f n : Nat) (acc : List Int), n < 10 ^ f → 1 ≤ f → acc.length + f ≤ 900 → n ≤ 1099511627776 → Ev (fun K => lexer_Number_l0 K (n : Int) sign acc true) (sign ++ encB (acc ++ rdgF f n).reverse)
  | 0, _, _, _, h, _, _ => by omega
  | f + 1, n, acc, h, _, ha, hn => by
    have q1 := Int.tmod_add_mul_tdiv (n : Int) 10
    have q2 := Int.tmod_lt_of_pos (n : Int) (b := 10) (by decide)
    have q4 : 0 ≤ (n : Int).tmod 10 := Int.tmod_nonneg 10 (by omega)
    have em : (n : Int).tmod 10 = ((n % 10 : Nat) : Int) := by omega
    have eq : (n : Int).tdiv 10 = ((n / 10 : Nat) : Int) := by omega
    have quo : divI .quo .u64 (n : Int) 10 = some ((n / 10 : Nat) : Int) := by
      show (if (10 : Int) = 0 then none else some (IntKind.u64.wrap ((n : Int).tdiv 10))) = _
      rw [if_neg (by decide), eq, wrapU64 (by omega) (by omega)]
    have rem : divI .rem .u64 (n : Int) 10 = some ((n % 10 : Nat) : Int) := by
      show (if (10 : Int) = 0 then none else some ((n : Int).tmod 10)) = _
      rw [if_neg (by decide), em]
    refine Ev.step (fun k => by rw [lexer_Number_l0]) ?_
    refine Ev.isT rfl ?_
    refine Ev.opt rem ?_
    rw [wrapU64 (x := 48 + ((n % 10 : Nat) : Int)) (by omega) (by omega), wrapU8 (x := 48 + ((n % 10 : Nat) : Int)) (by omega) (by omega)]
    refine Ev.opt (appL_ok (by simp; omega)) ?_
    refine Ev.opt quo ?_
    unfold rdgF
    rw [show (48 : Int) + ((n % 10 : Nat) : Int) = ((48 + n % 10 : Nat) : Int) by omega]
    by_cases h10 : n < 10
    · rw [if_pos h10, decide_eq_false (show ¬ (0 : Int) < ((n / 10 : Nat) : Int) by omega)]
      refine Ev.step (fun k => by rw [lexer_Number_l0]) ?_
      refine Ev.isF rfl ?_
      refine Ev.bind (ev_Reverse _ (by simp; omega) (by simp)) ?_
      refine Ev.iteT (by simp) ?_
      refine Ev.opt (catS_ok (by simp [encB]; omega)) Ev.pure
    · rw [if_neg h10, decide_eq_true (show (0 : Int) < ((n / 10 : Nat) : Int) by omega)]
      have hf : 1 ≤ f := by
        cases f with
        | zero => simp at h; omega
        | succ f => omega
      have := ev_Number_l0 sign hs f (n / 10) (acc ++ [((48 + n % 10 : Nat) : Int)]) (by rw [Nat.pow_succ] at h; omega) hf (by simp; omega) (by omega)
      rw [List.append_assoc] at this
      exact this
theorem ev_Number1 (n : Int) (hn : n.natAbs ≤ 1099511627776) : Ev (fun K => lexer_Number K n) (numS n) := by
  refine Ev.congr (f := fun K => _) ?_ (fun k => by rw [lexer_Number])
  have core : ∀ sign : List UInt8, sign.length ≤ 10 → Ev (fun K => lexer_Number_c0 K (n.natAbs : Int) sign) (sign ++ dig n.natAbs) := fun sign hs => by
    refine Ev.step (fun k => by rw [lexer_Number_c0]) ?_
    have := ev_Number_l0 sign hs 13 n.natAbs [] (by omega) (by omega) (by simp) hn
    rw [List.nil_append, rdgF_dig 13 _ (by omega) (by omega)] at this
    exact this
  unfold numS
  refine Ev.d (fun hneg => ?_) (fun hneg => ?_)
  · rw [if_pos hneg, wrapU64n hneg (by omega), wrapU64n (by omega) (by omega), show 0 - (n + 18446744073709551616) + 18446744073709551616 = (n.natAbs : Int) by omega]
    exact core [126] (by simp)
  · rw [if_neg hneg, wrapU64 (by omega) (by omega)]
    have := core [] (by simp)
    rwa [show (n.natAbs : Int) = n by omega] at this
end Go.Proofs.YtnogkihchgnbcaaGreatDoor

/- Types as words, and the parser on them. -/
namespace Go.Proofs.YtnogkihchgnbcaaGreatDoor
open Go Go.Am Go.Sx
abbrev Wd := Int × List UInt8
def kt (k : Token) : Wd := (k.1, k.2.1)
/-- from a place on these words stand -/
def At (l : List Token) (i : Nat) (m : List Wd) : Prop := (l.map kt).drop i = m
def kW (m : List Wd) (s : List UInt8) : Bool := match m with
  | x :: _ => decide (x.1 = 3) && decide (x.2 = s)
  | [] => false
def nW (m : List Wd) : List UInt8 × Bool := match m with
  | x :: _ => if x.1 = 1 ∧ ckS x.2 = true then (x.2, true) else ([], false)
  | [] => ([], false)
def gW (m : List Wd) : List UInt8 × Bool := match m with
  | x :: _ => if x.1 = 1 ∧ lgS x.2 = true then (x.2, true) else ([], false)
  | [] => ([], false)
theorem At.tok {l : List Token} {i : Nat} {x : Wd} {m : List Wd} (h : At l i (x :: m)) : ∃ k, tokAt l (i : Int) = some k ∧ kt k = x := by
  unfold At at h
  have hlt : i < (l.map kt).length := by
    rcases Nat.lt_or_ge i (l.map kt).length with h1 | h1
    · exact h1
    · rw [List.drop_of_length_le h1] at h; cases h
  rw [List.drop_eq_getElem_cons hlt] at h
  have h1 := (List.cons.inj h).1
  rw [List.getElem_map] at h1
  rw [List.length_map] at hlt
  exact ⟨l[i], by unfold tokAt; rw [if_pos (by omega)]; exact getI_lt hlt, h1⟩
theorem At.none {l : List Token} {i : Nat} (h : At l i []) : tokAt l (i : Int) = none := by
  unfold At at h
  have := congrArg List.length h
  rw [List.length_drop, List.length_map, List.length_nil] at this
  exact tok_none (by omega)
theorem At.key {l : List Token} {i : Nat} {m : List Wd} (h : At l i m) (s : List UInt8) : keyS l (i : Int) s = kW m s := by
  cases m with
  | nil => unfold keyS kW; rw [h.none]
  | cons x m =>
    obtain ⟨k, h1, h2⟩ := h.tok
    unfold keyS kW; rw [h1, ← h2]; rfl
theorem At.name {l : List Token} {i : Nat} {m : List Wd} (h : At l i m) : nameS l (i : Int) = nW m := by
  cases m with
  | nil => unfold nameS nW; rw [h.none]
  | cons x m =>
    obtain ⟨k, h1, h2⟩ := h.tok
    unfold nameS nW; rw [h1, ← h2]; rfl
theorem At.long {l : List Token} {i : Nat} {m : List Wd} (h : At l i m) : longS l (i : Int) = gW m := by
  cases m with
  | nil => unfold longS gW; rw [h.none]
  | cons x m =>
    obtain ⟨k, h1, h2⟩ := h.tok
    unfold longS gW; rw [h1, ← h2]; rfl
theorem At.app {l : List Token} {i : Nat} {a b : List Wd} (h : At l i (a ++ b)) : At l (i + a.length) b := by
  unfold At at h ⊢
  rw [← List.drop_drop, h]
  simp
theorem At.next {l : List Token} {i : Nat} {x : Wd} {b : List Wd} (h : At l i (x :: b)) : At l (i + 1) b := At.app (a := [x]) h
def Pa0 (t : Tr) (w : List Wd) : Prop := ∀ (l : List Token) (i n : Nat) (R : List Wd), At l i (w ++ R) → kW R [42] = false → kW R [45, 62] = false → 3 * w.length + 3 ≤ n → typS l n i = (t, i + w.length, 0)
def wp (b : Bool) (w : List Wd) : List Wd := if b = true then (3, [40]) :: w ++ [(3, [41])] else w
/-- constructors as words: each with its type's words -/
inductive ConsW : List Tr → List Wd → Prop
  | one {s y w} (hs : ckS s = true) (hy : Pa0 y w) : ConsW [.node 8 0 s [] [y]] ((1, s) :: (3, [111, 102]) :: w)
  | more {s y w c v} (hs : ckS s = true) (hy : Pa0 y w) (hc : ConsW c v) : ConsW (.node 8 0 s [] [y] :: c) ((1, s) :: (3, [111, 102]) :: (w ++ (3, [124]) :: v))
end Go.Proofs.YtnogkihchgnbcaaGreatDoor

/- Texts whose runes may all be read, and those of names: what stands behind changes nothing. -/
namespace Go.Proofs.YtnogkihchgnbcaaGreatDoor
open Go Go.Am Go.Sx
theorem bang_app {p q : List UInt8} {j : Nat} (h : j < p.length) : (p ++ q)[j]! = p[j]! := by
  rw [getElem!_pos _ j (by simp; omega), getElem!_pos _ j h, List.getElem_append_left h]
theorem dc_app {p : List UInt8} (q : List UInt8) (hp : p ≠ []) (hr : (dc p).1 ≠ 65533) : dc (p ++ q) = dc p := by
  have h1 : 1 ≤ p.length := by cases p with | nil => exact absurd rfl hp | cons => simp
  have e0 : (p ++ q)[0]! = p[0]! := bang_app h1
  have e1 : 1 < p.length → (p ++ q)[1]! = p[1]! := bang_app
  have e2 : 2 < p.length → (p ++ q)[2]! = p[2]! := bang_app
  have e3 : 3 < p.length → (p ++ q)[3]! = p[3]! := bang_app
  have hl : (p ++ q).length = p.length + q.length := List.length_append
  unfold dc Lib.decodeN at hr ⊢
  rw [e0, hl]
  generalize p[0]!.toNat = b0 at *
  by_cases c0 : b0 < 128
  · rw [if_pos c0, if_pos c0]
  rw [if_neg c0] at hr
  rw [if_neg c0, if_neg c0]
  by_cases c1 : b0 / 32 = 6 ∧ (1 < p.length ∧ p[1]!.toNat / 64 = 2)
  · rw [e1 c1.2.1, if_pos c1, if_pos ⟨c1.1, by omega, c1.2.2⟩]
  rw [if_neg c1] at hr
  rw [if_neg c1]
  by_cases c2 : b0 / 16 = 14 ∧ (1 < p.length ∧ p[1]!.toNat / 64 = 2) ∧ (2 < p.length ∧ p[2]!.toNat / 64 = 2)
  · rw [e1 c2.2.1.1, e2 c2.2.2.1, if_pos c2, if_neg (by omega), if_pos ⟨c2.1, ⟨by omega, c2.2.1.2⟩, by omega, c2.2.2.2⟩]
  rw [if_neg c2] at hr
  rw [if_neg c2]
  by_cases c3 : b0 / 8 = 30 ∧ (1 < p.length ∧ p[1]!.toNat / 64 = 2) ∧ (2 < p.length ∧ p[2]!.toNat / 64 = 2) ∧ (3 < p.length ∧ p[3]!.toNat / 64 = 2)
  · rw [e1 c3.2.1.1, e2 c3.2.2.1.1, e3 c3.2.2.2.1, if_pos c3, if_neg (by omega), if_neg (by omega), if_pos ⟨c3.1, ⟨by omega, c3.2.1.2⟩, ⟨by omega, c3.2.2.1.2⟩, by omega, c3.2.2.2.2⟩]
  rw [if_neg c3] at hr
  exact absurd rfl hr
theorem dc_byte {b : UInt8} {t : List UInt8} (h : b.toNat < 128) : dc (b :: t) = (b.toNat, 1) := dc_ascii (l := b :: t) h
/-- may a rune lie within a name? -/
def inn (r : Int) : Bool := decide (cls r = 1) || (decide (cls r = 2) || decide (r = 39))
/-- may a rune be read? -/
def okr (r : Nat) : Prop := r ≠ 65533 ∧ ((r : Int) < 32 → cls r = 3) ∧ r ≠ 127
theorem inn_low {r : Nat} (h : inn (r : Int) = true) : 39 ≤ r ∧ r ≠ 65533 ∧ r ≠ 127 := by
  unfold inn at h
  simp only [Bool.or_eq_true, decide_eq_true_eq] at h
  unfold cls at h
  rcases h with h | h | h
  · repeat' split at h
    all_goals omega
  · repeat' split at h
    all_goals omega
  · omega
theorem inn_ok {r : Nat} (h : inn (r : Int) = true) : okr r := by
  have := inn_low h
  exact ⟨this.2.1, fun h => by omega, this.2.2⟩
inductive Rk : List UInt8 → Prop
  | nil : Rk []
  | cons {p} (h : p ≠ []) (hr : okr (dc p).1) (t : Rk (p.drop (dc p).2)) : Rk p
inductive Inn : List UInt8 → Prop
  | nil : Inn []
  | cons {p} (h : p ≠ []) (hr : inn (((dc p).1 : Nat) : Int) = true) (t : Inn (p.drop (dc p).2)) : Inn p
theorem Inn.rk {p : List UInt8} (h : Inn p) : Rk p := by
  induction h with
  | nil => exact .nil
  | cons h hr _ ih => exact .cons h (inn_ok hr) ih
theorem drop_app {p q : List UInt8} {n : Nat} (h : n ≤ p.length) : (p ++ q).drop n = p.drop n ++ q := by
  rw [List.drop_append, show n - p.length = 0 by omega, List.drop_zero]
theorem rk_app {a b : List UInt8} (ha : Rk a) (hb : Rk b) : Rk (a ++ b) := by
  induction ha with
  | nil => exact hb
  | @cons p h hr _ ih =>
    have e := dc_app b h hr.1
    refine .cons (by simp [h]) (by rw [e]; exact hr) ?_
    rw [e, drop_app (dc_le h)]; exact ih
theorem rk_ascii : ∀ {p : List UInt8}, (∀ b ∈ p, 32 ≤ b.toNat ∧ b.toNat < 127) → Rk p
  | [], _ => .nil
  | b :: t, h => by
    have hb := h b List.mem_cons_self
    have e : dc (b :: t) = (b.toNat, 1) := dc_byte (by omega)
    refine .cons (by simp) ?_ ?_
    · rw [e]; exact ⟨by simp only; omega, fun h => by simp only at h; omega, by simp only; omega⟩
    · rw [e]; exact rk_ascii fun b hb => h b (List.mem_cons_of_mem _ hb)
theorem inn_ascii : ∀ {p : List UInt8}, (∀ b ∈ p, 97 ≤ b.toNat ∧ b.toNat < 123) → Inn p
  | [], _ => .nil
  | b :: t, h => by
    have hb := h b List.mem_cons_self
    have e : dc (b :: t) = (b.toNat, 1) := dc_byte (by omega)
    have hc : cls ((b.toNat : Nat) : Int) = 1 := by unfold cls; rw [if_pos (by omega)]
    refine .cons (by simp) ?_ ?_
    · rw [e]; unfold inn; rw [hc]; rfl
    · rw [e]; exact inn_ascii fun b hb => h b (List.mem_cons_of_mem _ hb)
theorem inn_name : ∀ (n : Nat) (p : List UInt8), p.length ≤ n → ∀ f, nmOk f (rs p) = true → Inn p := by
  intro n
  induction n with
  | zero =>
    intro p h f _
    obtain rfl := List.length_eq_zero_iff.1 (Nat.le_zero.1 h)
    exact .nil
  | succ n ih =>
    intro p h f ho
    by_cases hp : p = []
    · subst hp; exact .nil
    · rw [rs_step hp, nmOk_cons] at ho
      simp only [Bool.and_eq_true, Bool.or_eq_true] at ho
      have hw := dc_width p
      refine .cons hp ?_ (ih _ (by rw [List.length_drop]; omega) false ho.2)
      unfold inn
      simp only [Bool.or_eq_true]
      rcases ho.1 with h1 | h1
      · exact .inl h1
      · exact .inr h1.2
theorem first_name {p : List UInt8} (hp : p ≠ []) (ho : nmOk true (rs p) = true) : cls (((dc p).1 : Nat) : Int) = 1 := by
  rw [rs_step hp, nmOk_cons] at ho
  simp only [Bool.not_true, Bool.false_and, Bool.or_false, Bool.and_eq_true, decide_eq_true_eq] at ho
  exact ho.1
theorem ck_parts {s : List UInt8} (h : ckS s = true) : s ≠ [] ∧ nmS s = true ∧ s ∉ wrds ∧ Inn s ∧ cls (((dc s).1 : Nat) : Int) = 1 := by
  unfold ckS at h
  simp only [Bool.and_eq_true, Bool.not_eq_true', decide_eq_false_iff_not] at h
  have h1 := h.1
  unfold nmS at h1
  simp only [Bool.and_eq_true, decide_eq_true_eq] at h1
  exact ⟨h1.1, h.1, h.2, inn_name _ s (Nat.le_refl _) true h1.2.2.2, first_name h1.1 h1.2.2.2⟩
/-- parts of a long name behind the first one -/
def lj : List (List UInt8) → List UInt8
  | [] => []
  | p :: r => 46 :: (p ++ lj r)
theorem rk_lj : ∀ {r : List (List UInt8)}, (∀ p ∈ r, ckS p = true) → Rk (lj r)
  | [], _ => .nil
  | p :: r, h => by
    show Rk ([46] ++ (p ++ lj r))
    exact rk_app (rk_ascii (by decide)) (rk_app (ck_parts (h p List.mem_cons_self)).2.2.2.1.rk (rk_lj fun q hq => h q (List.mem_cons_of_mem _ hq)))
theorem ck_one {s : List UInt8} (h : ckS s = true) : ∃ p r, s = p ++ lj r ∧ ckS p = true ∧ (∀ q ∈ r, ckS q = true) ∧ s.length ≤ 128 := by
  refine ⟨s, [], by simp [lj], h, fun q hq => by simp at hq, ?_⟩
  unfold ckS nmS at h
  simp only [Bool.and_eq_true, decide_eq_true_eq] at h
  omega
/-- words of the text, with a blank ahead of each -/
def jt : List Wd → List UInt8
  | [] => []
  | x :: r => 32 :: (x.2 ++ jt r)
/-- words of the text, with a blank between -/
def jn : List Wd → List UInt8
  | [] => []
  | x :: r => x.2 ++ jt r
end Go.Proofs.YtnogkihchgnbcaaGreatDoor

/- The lexer on words with blanks between. -/
namespace Go.Proofs.YtnogkihchgnbcaaGreatDoor
open Go Go.Am Go.Sx
theorem ev_inner (r : Int) : Ev (fun K => lexer_inner K r) (inn r) := by
  refine Ev.congr (f := fun K => _) ?_ (fun K => by rw [lexer_inner])
  refine Ev.bind (ev_class1 r) ?_
  unfold inn
  refine Ev.d (fun h => Ev.pure' ?_) (fun h => Ev.d (fun h2 => Ev.pure' ?_) (fun h2 => Ev.pure' ?_))
  · rw [decide_eq_true h]; rfl
  · rw [decide_eq_true h2]; simp
  · rw [decide_eq_false h, decide_eq_false h2]; rfl
/-- here a name ends -/
def Stop (t : List UInt8) : Prop := t = [] ∨ ∃ b r, t = b :: r ∧ b.toNat < 128 ∧ inn ((b.toNat : Nat) : Int) = false
theorem stop_46 (r : List UInt8) : Stop (46 :: r) := .inr ⟨46, r, rfl, by decide, by decide⟩
theorem stop_32 (r : List UInt8) : Stop (32 :: r) := .inr ⟨32, r, rfl, by decide, by decide⟩
theorem ev_span2_loop (s : List UInt8) : ∀ (m : Nat) (p : List UInt8), p.length ≤ m → Inn p → ∀ (i : Nat) (tail : List UInt8), s.drop i = p ++ tail → Stop tail → i ≤ s.length → Ev (fun K => lexer_span_2_l0 K s s (i : Int)) ((i + p.length : Nat) : Int) := by
  have fin : ∀ (i : Nat) (tail : List UInt8), s.drop i = tail → Stop tail → i ≤ s.length → Ev (fun K => lexer_span_2_l0 K s s (i : Int)) ((i : Nat) : Int) := fun i tail hd hst hi => by
    refine Ev.step (fun k => by rw [lexer_span_2_l0]) ?_
    simp only [Int.toNat_natCast, runeAt_dc]
    rcases hst with e | ⟨b, r, e, hb, hn⟩
    · rw [e] at hd
      have := congrArg List.length hd
      rw [List.length_drop, List.length_nil] at this
      exact Ev.dF (by omega) (Ev.pure' (by omega))
    · rw [e] at hd
      have := congrArg List.length hd
      rw [List.length_drop, List.length_cons] at this
      refine Ev.dT (by omega) ?_
      rw [hd, dc_byte hb]
      refine Ev.bind (ev_inner _) ?_
      rw [hn]
      exact Ev.isT rfl Ev.pure
  intro m
  induction m with
  | zero =>
    intro p hp _ i tail hd hst hi
    obtain rfl := List.length_eq_zero_iff.1 (Nat.le_zero.1 hp)
    exact fin i tail hd hst hi
  | succ m ih =>
    intro p hp hin i tail hd hst hi
    cases hin with
    | nil => exact fin i tail hd hst hi
    | cons hne hr ht =>
      have hw := dc_width p
      have hle := dc_le hne
      have h65 := (inn_low hr).2.1
      have e := dc_app tail hne h65
      have := congrArg List.length hd
      rw [List.length_drop, List.length_append] at this
      refine Ev.step (fun k => by rw [lexer_span_2_l0]) ?_
      simp only [Int.toNat_natCast, runeAt_dc]
      refine Ev.dT (by omega) ?_
      rw [hd, e]
      refine Ev.bind (ev_inner _) ?_
      rw [hr]
      refine Ev.isF rfl ?_
      have nxt := ih (p.drop (dc p).2) (by rw [List.length_drop]; omega) ht (i + (dc p).2) tail (by rw [← List.drop_drop, hd, drop_app hle]) hst (by omega)
      rw [List.length_drop] at nxt
      rw [show i + p.length = i + (dc p).2 + (p.length - (dc p).2) by omega]
      exact nxt
theorem ev_span2 {p tail : List UInt8} (hp : Inn p) (ht : Stop tail) : Ev (fun K => lexer_span_2 K (p ++ tail)) ((p.length : Nat) : Int) := by
  refine Ev.congr (f := fun K => _) ?_ (fun K => by rw [lexer_span_2])
  have := ev_span2_loop (p ++ tail) p.length p (Nat.le_refl _) hp 0 tail rfl ht (by omega)
  simpa using this
theorem ev_blank (r : Int) : Ev (fun K => lexer_Lex_1 K r) (decide (cls r = 3)) := by
  refine Ev.congr (f := fun K => _) ?_ (fun K => by rw [lexer_Lex_1])
  exact Ev.bind (ev_class1 r) Ev.pure
theorem span_at {s : List UInt8} {i : Nat} (hi : i < s.length) (hc : cls (((dc (s.drop i)).1 : Nat) : Int) ≠ 3) : Ev (fun K => lexer_span_l0 K s s (i : Int)) (i : Int) := by
  refine Ev.step (fun k => by rw [lexer_span_l0]) ?_
  simp only [Int.toNat_natCast, runeAt_dc]
  refine Ev.dT hi ?_
  refine Ev.bind (ev_blank _) ?_
  rw [decide_eq_false hc]
  exact Ev.isT rfl Ev.pure
theorem ev_span0 {s : List UInt8} (hs : s ≠ []) (hc : cls (((dc s).1 : Nat) : Int) ≠ 3) : Ev (fun K => lexer_span K s) 0 := by
  refine Ev.congr (f := fun K => _) ?_ (fun K => by rw [lexer_span])
  exact span_at (s := s) (i := 0) (by cases s with | nil => exact absurd rfl hs | cons => simp) hc
theorem ev_span1 {s : List UInt8} (hs : s ≠ []) (hc : cls (((dc s).1 : Nat) : Int) ≠ 3) : Ev (fun K => lexer_span K (32 :: s)) 1 := by
  refine Ev.congr (f := fun K => _) ?_ (fun K => by rw [lexer_span])
  refine Ev.step (fun k => by rw [lexer_span_l0]) ?_
  have e : dc (32 :: s) = (32, 1) := dc_byte (by decide)
  rw [show (0 : Int).toNat = 0 from rfl, runeAt_dc, List.drop_zero, e]
  refine Ev.dT (by simp) ?_
  refine Ev.bind (ev_blank _) ?_
  refine Ev.isF (by decide) ?_
  exact span_at (s := 32 :: s) (i := 1) (by cases s with | nil => exact absurd rfl hs | cons => simp) hc
theorem ev_prefix (s x : List UInt8) : Ev (fun K => strings_HasPrefix K s x) (x.isPrefixOf s) := by
  refine Ev.congr (f := fun K => _) ?_ (fun K => by rw [strings_HasPrefix])
  refine Ev.ret ?_
  refine Ev.congr (f := fun K => _) ?_ (fun K => by rw [stringslite_HasPrefix])
  have hb : x.isPrefixOf s = true ↔ x = s.take x.length := by rw [List.isPrefixOf_iff_prefix, List.prefix_iff_eq_take]
  refine Ev.d (fun h => ?_) (fun h => Ev.pure' ?_)
  · refine Ev.opt (a := s.take x.length) ?_ (Ev.pure' ?_)
    · have := subL_ok (l := s) (a := 0) (b := x.length) (by omega) (by omega)
      simpa using this
    · by_cases e : s.take x.length = x
      · rw [decide_eq_true e, hb.2 e.symm]
      · rw [decide_eq_false e]
        cases hx : x.isPrefixOf s with
        | false => rfl
        | true => exact absurd (hb.1 hx).symm e
  · cases hx : x.isPrefixOf s with
    | false => rfl
    | true =>
      have := congrArg List.length (hb.1 hx)
      rw [List.length_take] at this
      omega
theorem ev_first {s : List UInt8} (hs : s ≠ []) : Ev (fun K => lexer_first K s) (((dc s).1 : Nat) : Int) := by
  refine Ev.congr (f := fun K => _) ?_ (fun K => by rw [lexer_first])
  refine Ev.step (fun k => by rw [lexer_first_l0]) ?_
  rw [show (0 : Int).toNat = 0 from rfl, runeAt_dc, List.drop_zero]
  exact Ev.dT (by cases s with | nil => exact absurd rfl hs | cons => simp) Ev.pure
abbrev TokR := Int × List UInt8 × Int × Int × Int × Bool
def fnd (l : List (List UInt8)) (s : List UInt8) : TokR := match l.find? (fun x => x.isPrefixOf s) with
  | some x => (3, x, 0, 0, ((x.length : Nat) : Int), true)
  | none => (0, [], 0, 0, 0, false)
theorem ev_signs_loop (s : List UInt8) (l : List (List UInt8)) (hl : l.length ≤ 1000) : ∀ (m i : Nat), l.length = i + m → Ev (fun K => lexer_token_l0 K s l (i : Int)) (fnd (l.drop i) s) := by
  intro m
  induction m with
  | zero =>
    intro i hi
    refine Ev.step (fun k => by rw [lexer_token_l0]) (Ev.dF (by omega) (Ev.pure' ?_))
    rw [List.drop_of_length_le (by omega)]; rfl
  | succ m ih =>
    intro i hi
    have hlt : i < l.length := by omega
    refine Ev.step (fun k => by rw [lexer_token_l0]) ?_
    refine Ev.dT (by omega) (Ev.opt (getI_lt hlt) (Ev.bind (ev_prefix s _) ?_))
    rw [drop_get hlt]
    unfold fnd
    rw [List.find?_cons]
    cases hx : l[i].isPrefixOf s with
    | true => exact Ev.isT rfl Ev.pure
    | false =>
      refine Ev.isF rfl ?_
      rw [wrap_nat (by omega)]
      exact ih (i + 1) (by omega)
def sgns : List (List UInt8) := (lexer_signs 0).getD []
theorem signs_eq (k : Nat) : lexer_signs k = some sgns := rfl
/-- the end, or a blank -/
def Bl (t : List UInt8) : Prop := t = [] ∨ ∃ r, t = 32 :: r
theorem Bl.stop {t : List UInt8} (h : Bl t) : Stop t := by
  rcases h with h | ⟨r, rfl⟩
  · exact .inl h
  · exact stop_32 r
theorem bl_jt (w : List Wd) : Bl (jt w) := by
  cases w with
  | nil => exact .inl rfl
  | cons x r => exact .inr ⟨_, rfl⟩
/-- the number that digits are, and the number of a word -/
def fv (v : Int) (s : List UInt8) : Int := s.foldl (fun v b => 10 * v + ((b.toNat : Int) - 48)) v
def nOf (x : Wd) : Int := if x.1 = 2 then (if x.2.headD 0 = 126 then -(fv 0 (x.2.drop 1)) else fv 0 x.2) else 0
/-- a word that the lexer tells as it is -/
def Tk (x : Wd) : Prop := x.2 ≠ [] ∧ Rk x.2 ∧ x.2.length ≤ 1000 ∧ ∀ tail, tail.length ≤ 1000000 → Bl tail → cls (((dc (x.2 ++ tail)).1 : Nat) : Int) ≠ 3 ∧ List.isPrefixOf [40, 42] (x.2 ++ tail) = false ∧ Ev (fun K => lexer_token K (x.2 ++ tail)) (x.1, x.2, nOf x, 0, ((x.2.length : Nat) : Int), true)
theorem tk_sign {b : UInt8} {w : List UInt8} (hb : b.toNat < 127 ∧ 33 ≤ b.toNat ∧ b.toNat ≠ 126 ∧ cls ((b.toNat : Nat) : Int) = 0) (hw : ∀ c ∈ w, 32 ≤ c.toNat ∧ c.toNat < 127) (hl : w.length ≤ 10)
    (hf : ∀ tail, Bl tail → fnd sgns (b :: w ++ tail) = (3, b :: w, 0, 0, (((b :: w).length : Nat) : Int), true) ∧ List.isPrefixOf [40, 42] (b :: w ++ tail) = false) : Tk (3, b :: w) := by
  refine ⟨by simp, rk_ascii ?_, by simp; omega, fun tail _ ht => ?_⟩
  · intro c hc
    rcases List.mem_cons.1 hc with rfl | hc
    · omega
    · exact hw c hc
  · have e : dc (b :: w ++ tail) = (b.toNat, 1) := dc_byte (by omega)
    obtain ⟨h1, h2⟩ := hf tail ht
    refine ⟨by rw [e]; simp only [hb.2.2.2]; decide, h2, ?_⟩
    refine Ev.congr (f := fun K => _) ?_ (fun K => by rw [lexer_token])
    refine Ev.bind (ev_first (by simp)) ?_
    rw [e]
    refine Ev.bind (ev_class1 _) ?_
    rw [hb.2.2.2]
    refine Ev.dF (by decide) ?_
    refine Ev.dF (by decide) ?_
    refine Ev.opt (a := b) rfl ?_
    refine Ev.dF (by omega) ?_
    refine Ev.opt (signs_eq 0) ?_
    have := ev_signs_loop (b :: w ++ tail) sgns (by decide) sgns.length 0 (by omega)
    rw [List.drop_zero, h1] at this
    exact this
theorem sub0 {l : List UInt8} {a b : List UInt8} (h : l = a ++ b) : subL l 0 ((a.length : Nat) : Int) = some a := by
  subst h
  have := subL_ok (l := a ++ b) (a := 0) (b := a.length) (by omega) (by simp)
  simpa using this
theorem tk_key {w : List UInt8} (hw : w ∈ wrds) (hn : w ≠ []) (ha : ∀ b ∈ w, 97 ≤ b.toNat ∧ b.toNat < 123) (hl : w.length ≤ 100) : Tk (3, w) := by
  have hin := inn_ascii ha
  refine ⟨hn, hin.rk, by simp only; omega, fun tail htl ht => ?_⟩
  obtain ⟨b, w', rfl⟩ : ∃ b w', w = b :: w' := by cases w with | nil => exact absurd rfl hn | cons b w' => exact ⟨b, w', rfl⟩
  have hb := ha b List.mem_cons_self
  have e : dc (b :: w' ++ tail) = (b.toNat, 1) := dc_byte (by omega)
  have hc : cls ((b.toNat : Nat) : Int) = 1 := by unfold cls; rw [if_pos (by omega)]
  refine ⟨by rw [e]; simp only [hc]; decide, ?_, ?_⟩
  · show (40 == b && _) = false
    rw [show ((40 : UInt8) == b) = false from by
      rw [beq_eq_false_iff_ne]; intro h; rw [← h] at hb; exact absurd hb.1 (by decide)]; rfl
  · refine Ev.congr (f := fun K => _) ?_ (fun K => by rw [lexer_token])
    refine Ev.bind (ev_first (by simp)) ?_
    rw [e]
    refine Ev.bind (ev_class1 _) ?_
    rw [hc]
    refine Ev.dT rfl ?_
    refine Ev.bind (a := ((3 : Int), b :: w', (0 : Int), (0 : Int), (((b :: w').length : Nat) : Int), true)) ?_ Ev.pure
    refine Ev.congr (f := fun K => _) ?_ (fun K => by rw [lexer_long])
    refine Ev.bind (ev_span2 hin ht.stop) ?_
    have hs := sub0 (l := b :: w' ++ tail) (a := b :: w') (b := tail) rfl
    refine Ev.opt hs ?_
    refine Ev.bind (ev_word1 _) ?_
    refine Ev.dT hw ?_
    refine Ev.d (fun _ => Ev.opt hs Ev.pure) (fun h => ?_)
    rcases ht with rfl | ⟨r, rfl⟩
    · exact absurd (by simp) h
    · refine Ev.opt (a := 32) ?_ ?_
      · rw [getI_lt (by simp), List.getElem_append_right (Nat.le_refl _)]; simp
      · exact Ev.nT (by decide) (Ev.opt hs Ev.pure)
theorem long_loop (s tail : List UInt8) (ht : Bl tail) (hs : s.length ≤ 2000000) : ∀ (r : List (List UInt8)), (∀ p ∈ r, ckS p = true) → ∀ n : Nat, s.drop n = lj r ++ tail → n ≤ s.length →
    Ev (fun K => lexer_long_l0 K s (n : Int) true) (1, s.take (n + (lj r).length), 0, 0, ((n + (lj r).length : Nat) : Int), decide (((n + (lj r).length : Nat) : Int) ≤ 128)) := by
  intro r
  induction r with
  | nil =>
    intro _ n hd hn
    have hsub : subL s 0 (n : Int) = some (s.take n) := by
      have := subL_ok (l := s) (a := 0) (b := n) (by omega) hn
      simpa using this
    refine Ev.step (fun k => by rw [lexer_long_l0]) ?_
    refine Ev.isT rfl ?_
    show Ev _ (1, s.take n, 0, 0, (n : Int), decide ((n : Int) ≤ 128))
    refine Ev.d (fun h => ?_) (fun h => Ev.opt hsub Ev.pure)
    rcases ht with rfl | ⟨t, rfl⟩
    · have := congrArg List.length hd
      simp [lj] at this
      omega
    · have hlt : n < s.length := by omega
      rw [drop_get hlt] at hd
      have e := (List.cons.inj hd).1
      refine Ev.opt (getI_lt hlt) ?_
      rw [e]
      exact Ev.dF (by decide) (Ev.opt hsub Ev.pure)
  | cons p r ih =>
    intro hck n hd hn
    have hp := ck_parts (hck p List.mem_cons_self)
    have hd' : s.drop n = 46 :: (p ++ (lj r ++ tail)) := by rw [hd]; simp [lj]
    have hll := congrArg List.length hd'
    simp only [List.length_drop, List.length_cons, List.length_append] at hll
    have hlt : n < s.length := by omega
    have hd1 : s.drop (n + 1) = p ++ (lj r ++ tail) := by
      rw [drop_get hlt] at hd'
      exact (List.cons.inj hd').2
    have e : s[n] = 46 := by
      rw [drop_get hlt] at hd'
      exact (List.cons.inj hd').1
    have hsub : subL s ((n + 1 : Nat) : Int) ((s.length : Nat) : Int) = some (p ++ (lj r ++ tail)) := by rw [subD (by omega), hd1]
    have hst : Stop (lj r ++ tail) := by
      cases r with
      | nil => exact ht.stop
      | cons q r => exact stop_46 _
    refine Ev.step (fun k => by rw [lexer_long_l0]) ?_
    refine Ev.isT rfl ?_
    refine Ev.dT (by omega) ?_
    refine Ev.opt (getI_lt hlt) ?_
    rw [e]
    refine Ev.dT (by decide) ?_
    rw [wrap_nat (by omega)]
    refine Ev.opt hsub ?_
    refine Ev.bind (ev_span2 hp.2.2.2.1 hst) ?_
    refine Ev.opt hsub ?_
    refine Ev.opt (sub0 rfl) ?_
    refine Ev.bind (ev_rname p) ?_
    rw [hp.2.1]
    refine Ev.isT rfl ?_
    refine Ev.bind (ev_word1 p) ?_
    rw [decide_eq_false hp.2.2.1]
    rw [wrap_id (x := 1 + ((p.length : Nat) : Int)) (by omega) (by omega), wrap_id (by omega) (by omega)]
    have nxt := ih (fun q hq => hck q (List.mem_cons_of_mem _ hq)) (n + 1 + p.length) (by rw [← List.drop_drop, hd1]; simp) (by omega)
    have hlj : (lj (p :: r)).length = 1 + p.length + (lj r).length := by simp [lj]; omega
    rw [hlj]
    rw [show n + (1 + p.length + (lj r).length) = n + 1 + p.length + (lj r).length by omega, show (n : Int) + (1 + ((p.length : Nat) : Int)) = ((n + 1 + p.length : Nat) : Int) by omega]
    exact nxt
theorem tk_name {s : List UInt8} (h : ∃ p r, s = p ++ lj r ∧ ckS p = true ∧ (∀ q ∈ r, ckS q = true) ∧ s.length ≤ 128) : Tk (1, s) := by
  obtain ⟨p, r, rfl, hp, hr, hl⟩ := h
  have q := ck_parts hp
  refine ⟨by simp [q.1], rk_app q.2.2.2.1.rk (rk_lj hr), by simp only; omega, fun tail htl ht => ?_⟩
  have hc := q.2.2.2.2
  have h65 : (dc p).1 ≠ 65533 := by
    intro e
    rw [e] at hc
    exact absurd hc (by decide)
  have e : dc (p ++ lj r ++ tail) = dc p := by rw [List.append_assoc]; exact dc_app _ q.1 h65
  have hst : Stop (lj r ++ tail) := by
    cases r with
    | nil => exact ht.stop
    | cons q r => exact stop_46 _
  refine ⟨by simp only [e, hc]; decide, ?_, ?_⟩
  · obtain ⟨b, w', rfl⟩ : ∃ b w', p = b :: w' := by cases p with | nil => exact absurd rfl q.1 | cons b w' => exact ⟨b, w', rfl⟩
    show (40 == b && _) = false
    rw [show ((40 : UInt8) == b) = false from by
      rw [beq_eq_false_iff_ne]
      intro h
      subst h
      rw [dc_byte (by decide)] at hc
      exact absurd hc (by decide)]; rfl
  · refine Ev.congr (f := fun K => _) ?_ (fun K => by rw [lexer_token])
    refine Ev.bind (ev_first (by simp [q.1])) ?_
    simp only [e]
    refine Ev.bind (ev_class1 _) ?_
    rw [hc]
    refine Ev.dT rfl ?_
    refine Ev.bind (a := ((1 : Int), p ++ lj r, (0 : Int), (0 : Int), (((p ++ lj r).length : Nat) : Int), true)) ?_ Ev.pure
    refine Ev.congr (f := fun K => _) ?_ (fun K => by rw [lexer_long])
    have hsp := ev_span2 q.2.2.2.1 hst
    rw [← List.append_assoc] at hsp
    refine Ev.bind hsp ?_
    have hs := sub0 (l := p ++ lj r ++ tail) (a := p) (b := lj r ++ tail) (by simp)
    refine Ev.opt hs ?_
    refine Ev.bind (ev_word1 _) ?_
    refine Ev.dF q.2.2.1 ?_
    refine Ev.opt hs ?_
    refine Ev.bind (ev_rname p) ?_
    rw [q.2.1]
    refine Ev.isT rfl ?_
    refine Ev.opt hs ?_
    refine Ev.bind (ev_word1 p) ?_
    rw [decide_eq_false q.2.2.1]
    simp only [List.length_append] at hl
    have := long_loop (p ++ lj r ++ tail) tail ht (by simp; omega) r hr p.length (by simp) (by simp)
    rw [decide_eq_true (by omega), show p.length + (lj r).length = (p ++ lj r).length by simp, List.take_left] at this
    exact this
/-- from a place on, words with a blank ahead of each -/
theorem lex_run (s : List UInt8) (hs : s.length ≤ 1000000) : ∀ (ws : List Wd), (∀ x ∈ ws, Tk x) → ∀ (i : Nat) (acc : List Token), i ≤ s.length → acc.length ≤ i →
    (s.drop i = jt ws → ∃ toks, toks.map kt = ws ∧ (∀ k ∈ toks, k.2.2.1 = nOf (kt k)) ∧ Ev (fun K => lexer_Lex_l0 K s acc (i : Int)) (acc ++ toks, 0, 0)) ∧ (ws ≠ [] → s.drop i = jn ws → ∃ toks, toks.map kt = ws ∧ (∀ k ∈ toks, k.2.2.1 = nOf (kt k)) ∧ Ev (fun K => lexer_Lex_l0 K s acc (i : Int)) (acc ++ toks, 0, 0)) := by
  intro ws
  induction ws with
  | nil =>
    intro _ i acc hi ha
    refine ⟨fun hd => ⟨[], rfl, (fun k hk => by cases hk), ?_⟩, fun h => absurd rfl h⟩
    have := congrArg List.length hd
    rw [List.length_drop] at this
    simp [jt] at this
    refine Ev.step (fun k => by rw [lexer_Lex_l0]) (Ev.dF (by omega) (Ev.pure' (by simp)))
  | cons x r ih =>
    intro hx i acc hi ha
    have word : ∀ (i : Nat), acc.length ≤ i → i ≤ s.length → s.drop i = x.2 ++ jt r → ∃ toks, toks.map kt = x :: r ∧ (∀ k ∈ toks, k.2.2.1 = nOf (kt k)) ∧ Ev (fun K => lexer_Lex_l0 K s acc (i : Int)) (acc ++ toks, 0, 0) := fun i ha hi hd => by
      obtain ⟨hne, _, hxl, htk⟩ := hx x List.mem_cons_self
      have hlen := congrArg List.length hd
      rw [List.length_drop, List.length_append] at hlen
      have hpos : 1 ≤ x.2.length := by cases hq : x.2 with | nil => exact absurd hq hne | cons => simp
      obtain ⟨h1, h2, h3⟩ := htk (jt r) (by omega) (bl_jt r)
      obtain ⟨toks, q1, q0, q2⟩ := (ih (fun y hy => hx y (List.mem_cons_of_mem _ hy)) (i + x.2.length) (acc ++ [(x.1, x.2, nOf x, (i : Int))]) (by omega) (by simp; omega)).1 (by rw [← List.drop_drop, hd]; simp)
      refine ⟨(x.1, x.2, nOf x, (i : Int)) :: toks, by rw [List.map_cons, q1]; rfl, (fun k hk => by
        rcases List.mem_cons.1 hk with rfl | hk
        · rfl
        · exact q0 k hk), ?_⟩
      refine Ev.step (fun k => by rw [lexer_Lex_l0]) ?_
      refine Ev.dT (by omega) ?_
      refine Ev.opt (subD hi) ?_
      rw [hd]
      refine Ev.bind (ev_span0 (by simp [hne]) h1) ?_
      refine Ev.dF (by decide) ?_
      refine Ev.bind (ev_prefix _ _) ?_
      rw [h2]
      refine Ev.isF rfl ?_
      refine Ev.bind h3 ?_
      refine Ev.isF rfl ?_
      refine Ev.step (fun k => by rw [lexer_Lex_c0]) ?_
      refine Ev.opt (appL_ok (by simp; omega)) ?_
      rw [wrap_id (by omega) (by omega), show (i : Int) + ((x.2.length : Nat) : Int) = ((i + x.2.length : Nat) : Int) by omega]
      simpa using q2
    refine ⟨fun hd => ?_, fun _ hd => word i ha hi hd⟩
    have hd' : s.drop i = 32 :: (x.2 ++ jt r) := hd
    have hlen := congrArg List.length hd'
    rw [List.length_drop, List.length_cons] at hlen
    have hlt : i < s.length := by omega
    have hd1 : s.drop (i + 1) = x.2 ++ jt r := by
      rw [drop_get hlt] at hd'
      exact (List.cons.inj hd').2
    obtain ⟨toks, q1, q0, q2⟩ := word (i + 1) (by omega) (by omega) hd1
    refine ⟨toks, q1, q0, ?_⟩
    obtain ⟨hne, _, hxl, htk⟩ := hx x List.mem_cons_self
    obtain ⟨h1, _, _⟩ := htk (jt r) (by rw [List.length_append] at hlen; omega) (bl_jt r)
    refine Ev.step (fun k => by rw [lexer_Lex_l0]) ?_
    refine Ev.dT (by omega) ?_
    refine Ev.opt (subD hi) ?_
    rw [hd']
    refine Ev.bind (ev_span1 (by simp [hne]) h1) ?_
    refine Ev.dT (by decide) ?_
    rw [wrap_nat (by omega)]
    exact q2
theorem ev_rcheck_loop (s : List UInt8) : ∀ (m i : Nat), s.length - i ≤ m → Rk (s.drop i) → Ev (fun K => runes_Check_l0 K s (i : Int)) (0, 0) := by
  intro m
  induction m with
  | zero =>
    intro i hm _
    refine Ev.step (fun k => by rw [runes_Check_l0]) ?_
    exact Ev.dF (by simp only [Int.toNat_natCast]; omega) Ev.pure
  | succ m ih =>
    intro i hm hr
    refine Ev.step (fun k => by rw [runes_Check_l0]) ?_
    simp only [Int.toNat_natCast, runeAt_dc]
    refine Ev.d (fun h => ?_) (fun h => Ev.pure)
    have hw := dc_width (s.drop i)
    generalize hq : s.drop i = q at *
    cases hr with
    | nil => exact absurd hq (drop_nil_iff h)
    | cons hne ho ht =>
      obtain ⟨o1, o2, o3⟩ := ho
      have nxt := ih (i + (dc q).2) (by omega) (by rw [← List.drop_drop, hq]; exact ht)
      refine Ev.dF (by omega) ?_
      refine Ev.d (fun h32 => ?_) (fun h32 => ?_)
      · refine Ev.bind (ev_class1 _) ?_
        refine Ev.nF (o2 h32) ?_
        exact Ev.dF (by omega) nxt
      · exact Ev.dF (by omega) nxt
theorem ev_rcheck {s : List UInt8} (h : Rk s) (hl : s.length ≤ 16384) : Ev (fun K => runes_Check K s) (0, 0) := by
  refine Ev.congr (f := fun K => _) ?_ (fun K => by rw [runes_Check])
  exact Ev.dF (by omega) (ev_rcheck_loop s s.length 0 (by omega) h)
theorem rk_jt : ∀ {ws : List Wd}, (∀ x ∈ ws, Tk x) → Rk (jt ws)
  | [], _ => .nil
  | x :: r, h => rk_app (a := [32]) (rk_ascii (by decide)) (rk_app (h x List.mem_cons_self).2.1 (rk_jt fun y hy => h y (List.mem_cons_of_mem _ hy)))
/-- words with blanks between are told as they are -/
theorem ev_lex {ws : List Wd} (hne : ws ≠ []) (h : ∀ x ∈ ws, Tk x) (hl : (jn ws).length ≤ 16384) : ∃ toks, toks.map kt = ws ∧ (∀ k ∈ toks, k.2.2.1 = nOf (kt k)) ∧ Ev (fun K => lexer_Lex K (jn ws)) (toks, 0, 0) := by
  have hr : Rk (jn ws) := by
    cases ws with
    | nil => exact .nil
    | cons x r => exact rk_app (h x List.mem_cons_self).2.1 (rk_jt fun y hy => h y (List.mem_cons_of_mem _ hy))
  obtain ⟨toks, q1, q0, q2⟩ := (lex_run (jn ws) (by omega) ws h 0 [] (by omega) (by simp)).2 hne rfl
  refine ⟨toks, q1, q0, ?_⟩
  refine Ev.congr (f := fun K => _) ?_ (fun K => by rw [lexer_Lex])
  refine Ev.bind (ev_rcheck hr hl) ?_
  refine Ev.nF rfl ?_
  simpa using q2
end Go.Proofs.YtnogkihchgnbcaaGreatDoor

/- A number's text is told as it is. -/
namespace Go.Proofs.YtnogkihchgnbcaaGreatDoor
open Go Go.Am Go.Sx
def Dg (s : List UInt8) : Prop := ∀ b ∈ s, 48 ≤ b.toNat ∧ b.toNat ≤ 57
theorem fv_ge : ∀ (s : List UInt8) (v : Int), 0 ≤ v → Dg s → v ≤ fv v s
  | [], v, _, _ => Int.le_refl _
  | b :: s, v, h, hd => by
    have hb := hd b List.mem_cons_self
    have := fv_ge s (10 * v + ((b.toNat : Int) - 48)) (by omega) (fun c hc => hd c (List.mem_cons_of_mem _ hc))
    show v ≤ fv (10 * v + ((b.toNat : Int) - 48)) s
    omega
theorem ev_digit (r : Int) : Ev (fun K => lexer_number_1 K r) (decide (cls r = 2)) := by
  refine Ev.congr (f := fun K => _) ?_ (fun K => by rw [lexer_number_1])
  exact Ev.bind (ev_class1 r) Ev.pure
end Go.Proofs.YtnogkihchgnbcaaGreatDoor

