/- Joined texts: C1, C2, C3. -/
import Derived.Test.YtnogkihchgnbcaaGreatDoorGl
import Derived.Lib.Repeat
import Derived.Test.YtnogkihchgnbcaaGreatDoorGo
/- The tokens of long sums. -/
namespace Go.Proofs.YtnogkihchgnbcaaGreatDoor
open Go Go.Am Go.Sx
theorem sp_app2 {p tail : List UInt8} (hp : Inn p) (ht : Stop tail) : sp inn (p ++ tail) = p.length := by
  have := Ev.unique (ev_spI (p ++ tail)) (ev_span2 hp ht)
  omega
/-- a number of one digit, with a sign behind it, or nothing -/
theorem tok_one {t : List UInt8} (ht : t = [] ∨ ∃ u, t = 43 :: u) : tokS (49 :: t) = (2, [49], 1, 0, 1, true) := by
  have e : dc (49 :: t) = (49, 1) := dc_byte (by decide)
  have h1 : sp dgR t = 0 := by
    rcases ht with rfl | ⟨u, rfl⟩
    · rfl
    · exact (sp_pos (by simp)).2 (by rw [dc_byte (by decide)]; decide)
  have h2 : sp inn t = 0 := by
    rcases ht with rfl | ⟨u, rfl⟩
    · rfl
    · exact (sp_pos (by simp)).2 (by rw [dc_byte (by decide)]; decide)
  have h3 : sp dgR (49 :: t) = 1 := by
    rw [sp_step (by simp), e, if_pos (by decide)]
    simp only [List.drop_succ_cons, List.drop_zero]
    rw [h1]
  unfold tokS
  rw [e, if_neg (by decide), if_pos (by decide)]
  unfold nuS
  rw [List.drop_zero, h3]
  simp only [Nat.zero_add, List.drop_succ_cons, List.drop_zero, List.take_succ_cons, List.take_zero]
  rw [h2, if_neg (by decide)]
  decide
theorem tok_plus (t : List UInt8) : tokS (43 :: 49 :: t) = (3, [43], 0, 0, 1, true) := by
  have e : dc (43 :: 49 :: t) = (43, 1) := dc_byte (by decide)
  unfold tokS
  rw [e, if_neg (by decide), if_neg (by decide), if_neg (by simp)]
  rfl
theorem tok_eq (t : List UInt8) : tokS (61 :: 49 :: t) = (3, [61], 0, 0, 1, true) := by
  have e : dc (61 :: 49 :: t) = (61, 1) := dc_byte (by decide)
  unfold tokS
  rw [e, if_neg (by decide), if_neg (by decide), if_neg (by simp)]
  rfl
theorem ck_x : ckS [120] = true := by decide +kernel
theorem tok_x (t : List UInt8) : tokS (120 :: 61 :: t) = (1, [120], 0, 0, 1, true) := by
  have e : dc (120 :: 61 :: t) = (120, 1) := dc_byte (by decide)
  have hs : sp inn (120 :: 61 :: t) = 1 := sp_app2 (p := [120]) (tail := 61 :: t) (inn_ascii (by decide)) (.inr ⟨61, t, rfl, by decide, by decide⟩)
  unfold tokS
  rw [e, if_pos (by decide)]
  unfold lnS
  rw [hs]
  simp only [List.drop_succ_cons, List.drop_zero, List.take_succ_cons, List.take_zero]
  rw [if_neg (fun h => absurd h.1 (by decide)), ck_x]
  unfold lgF
  rw [if_neg (fun h => absurd h.2 (by simp))]
  simp
theorem tok_val (t : List UInt8) : tokS (118 :: 97 :: 108 :: 32 :: t) = (3, [118, 97, 108], 0, 0, 3, true) := by
  have e : dc (118 :: 97 :: 108 :: 32 :: t) = (118, 1) := dc_byte (by decide)
  have hs : sp inn (118 :: 97 :: 108 :: 32 :: t) = 3 := sp_app2 (p := [118, 97, 108]) (tail := 32 :: t) (inn_ascii (by decide)) (.inr ⟨32, t, rfl, by decide, by decide⟩)
  unfold tokS
  rw [e, if_pos (by decide)]
  unfold lnS
  rw [hs]
  simp only [List.drop_succ_cons, List.drop_zero, List.take_succ_cons, List.take_zero]
  rw [if_pos ⟨by decide, by simp⟩]
  rfl
theorem lx_t {b : UInt8} {t : List UInt8} (hb : b.toNat < 128 ∧ cls ((b.toNat : Nat) : Int) ≠ 3) (hp : List.isPrefixOf [40, 42] (b :: t) = false) {k v : Int} {x : List UInt8} {n : Nat} (e : tokS (b :: t) = (k, x, v, 0, (n : Int), true)) (i : Nat) (acc : List Token) : lxS (b :: t) i acc = lxS ((b :: t).drop n) (i + n) (acc ++ [(k, x, v, (i : Int))]) := by
  have ed : dc (b :: t) = (b.toNat, 1) := dc_byte hb.1
  exact lxS_tk (by simp) (by rw [ed]; exact hb.2) i acc hp e
/-- a sum's tokens -/
def smT : Nat → Nat → List Token
  | 0, i => [(2, [49], 1, (i : Int))]
  | w + 1, i => (2, [49], 1, (i : Int)) :: (3, [43], 0, ((i + 1 : Nat) : Int)) :: smT w (i + 2)
def sumS (w : Nat) : List UInt8 := Lib.repeatL [49, 43] w ++ [49]
theorem sumS_s (w : Nat) : ∃ t, sumS w = 49 :: t ∧ sumS (w + 1) = 49 :: 43 :: 49 :: t := by
  cases w with
  | zero => exact ⟨[], rfl, rfl⟩
  | succ w => exact ⟨43 :: sumS w, rfl, rfl⟩
theorem lx_sum : ∀ (w i : Nat) (acc : List Token), lxS (sumS w) i acc = (acc ++ smT w i, 0, 0)
  | 0, i, acc => by
    show lxS [49] i acc = _
    rw [lx_t (n := 1) (by decide) rfl (tok_one (.inl rfl))]
    show lxS [] _ _ = _
    rw [lxS_nil]; rfl
  | w + 1, i, acc => by
    obtain ⟨t, h1, h2⟩ := sumS_s w
    rw [h2, lx_t (n := 1) (by decide) rfl (tok_one (.inr ⟨_, rfl⟩))]
    simp only [List.drop_succ_cons, List.drop_zero]
    rw [lx_t (n := 1) (by decide) rfl (tok_plus t)]
    simp only [List.drop_succ_cons, List.drop_zero]
    rw [← h1, lx_sum w, List.append_assoc, List.append_assoc]; rfl
/-- the text of a long sum -/
def bigS (w : Nat) : List UInt8 := [118, 97, 108, 32, 120, 61] ++ sumS w
def bigT (w : Nat) : List Token := (3, [118, 97, 108], 0, 0) :: (1, [120], 0, 4) :: (3, [61], 0, 5) :: smT w 6
theorem lx_big (w : Nat) : lxS (bigS w) 0 [] = (bigT w, 0, 0) := by
  obtain ⟨t, h1, _⟩ := sumS_s w
  have e : bigS w = 118 :: 97 :: 108 :: 32 :: 120 :: 61 :: 49 :: t := by unfold bigS; rw [h1]; rfl
  rw [e, lx_t (n := 3) (by decide) rfl (tok_val _)]
  simp only [List.drop_succ_cons, List.drop_zero]
  have eb : dc (32 :: 120 :: 61 :: 49 :: t) = (32, 1) := dc_byte (by decide)
  rw [lxS_bl (by simp) _ _ (by rw [eb]; decide), eb]
  simp only [List.drop_succ_cons, List.drop_zero]
  rw [lx_t (n := 1) (by decide) rfl (tok_x _)]
  simp only [List.drop_succ_cons, List.drop_zero]
  rw [lx_t (n := 1) (by decide) rfl (tok_eq _)]
  simp only [List.drop_succ_cons, List.drop_zero]
  rw [← h1, lx_sum]; rfl
theorem rep_ascii : ∀ (l : List UInt8) (w : Nat), (∀ b ∈ l, 32 ≤ b.toNat ∧ b.toNat < 127) → ∀ b ∈ Lib.repeatL l w, 32 ≤ b.toNat ∧ b.toNat < 127
  | l, 0, _, b, h => by cases h
  | l, w + 1, hl, b, h => by
    rcases List.mem_append.1 (show b ∈ l ++ Lib.repeatL l w from h) with h | h
    · exact hl b h
    · exact rep_ascii l w hl b h
theorem rk_big (w : Nat) : Rk (bigS w) := rk_app (rk_ascii (by decide)) (rk_app (rk_ascii (rep_ascii _ w (by decide))) (rk_ascii (by decide)))
theorem big_len (w : Nat) : (bigS w).length = 2 * w + 7 := by
  unfold bigS sumS
  rw [List.length_append, List.length_append, Lib.repeatL_length]
  simp only [List.length_cons, List.length_nil]
  omega
theorem smT_len : ∀ w i, (smT w i).length = 2 * w + 1
  | 0, _ => rfl
  | w + 1, i => by show (smT w (i + 2)).length + 1 + 1 = _; rw [smT_len w]; omega
theorem bigT_len (w : Nat) : (bigT w).length = 2 * w + 4 := by show (smT w 6).length + 1 + 1 + 1 = _; rw [smT_len]
theorem smT_even : ∀ (w i j : Nat), j ≤ w → ∃ a, (smT w i)[2 * j]? = some (2, [49], 1, a)
  | 0, i, j, h => by obtain rfl : j = 0 := by omega
                     exact ⟨_, rfl⟩
  | w + 1, i, 0, _ => ⟨_, rfl⟩
  | w + 1, i, j + 1, h => by
    obtain ⟨a, ha⟩ := smT_even w (i + 2) j (by omega)
    exact ⟨a, by rw [show 2 * (j + 1) = 2 * j + 1 + 1 by omega]; exact ha⟩
theorem smT_odd : ∀ (w i j : Nat), j < w → ∃ a, (smT w i)[2 * j + 1]? = some (3, [43], 0, a)
  | 0, i, j, h => by omega
  | w + 1, i, 0, _ => ⟨_, rfl⟩
  | w + 1, i, j + 1, h => by
    obtain ⟨a, ha⟩ := smT_odd w (i + 2) j (by omega)
    exact ⟨a, by rw [show 2 * (j + 1) + 1 = 2 * j + 1 + 1 + 1 by omega]; exact ha⟩
theorem big_even {w j : Nat} (h : j ≤ w) : ∃ a, (bigT w)[3 + 2 * j]? = some (2, [49], 1, a) := by
  obtain ⟨a, ha⟩ := smT_even w 6 j h
  exact ⟨a, by rw [show 3 + 2 * j = 2 * j + 1 + 1 + 1 by omega]; exact ha⟩
theorem big_odd {w j : Nat} (h : j < w) : ∃ a, (bigT w)[4 + 2 * j]? = some (3, [43], 0, a) := by
  obtain ⟨a, ha⟩ := smT_odd w 6 j h
  exact ⟨a, by rw [show 4 + 2 * j = 2 * j + 1 + 1 + 1 + 1 by omega]; exact ha⟩
end Go.Proofs.YtnogkihchgnbcaaGreatDoor

/- Long sums and deep projections, parsed. -/
namespace Go.Proofs.YtnogkihchgnbcaaGreatDoor
open Go Go.Am Go.Sx
section
variable {l : List Token}
theorem tk_at {i : Nat} {k : Token} (h : l[i]? = some k) : tokAt l ((i : Nat) : Int) = some k := by
  have hlt := (List.getElem?_eq_some_iff.1 h).1
  unfold tokAt
  rw [if_pos (by omega), getI_nat, h]
theorem tk_end {i : Nat} (h : l.length ≤ i) : tokAt l ((i : Nat) : Int) = none := tok_none (by omega)
theorem key_at {i : Nat} {k : Token} (h : l[i]? = some k) (t : List UInt8) : keyS l ((i : Nat) : Int) t = (decide (k.1 = 3) && decide (k.2.1 = t)) := by unfold keyS; rw [tk_at h]
theorem key_end {i : Nat} (h : l.length ≤ i) (t : List UInt8) : keyS l ((i : Nat) : Int) t = false := by unfold keyS; rw [tk_end h]
theorem key_not3 {i : Nat} {k v a : Int} {x : List UInt8} (h : l[i]? = some (k, x, v, a)) (h3 : k ≠ 3) (t : List UInt8) : ¬ keyS l ((i : Nat) : Int) t = true := by
  rw [key_at h]
  show ¬ (decide (k = 3) && decide (x = t)) = true
  rw [decide_eq_false h3, Bool.false_and]; exact Bool.false_ne_true
theorem key_yes {i : Nat} {v a : Int} {x : List UInt8} (h : l[i]? = some (3, x, v, a)) : keyS l ((i : Nat) : Int) x = true := by
  rw [key_at h]
  show (decide ((3 : Int) = 3) && decide (x = x)) = true
  rw [decide_eq_true rfl, decide_eq_true rfl]; rfl
theorem key_no {i : Nat} {k v a : Int} {x t : List UInt8} (h : l[i]? = some (k, x, v, a)) (ht : x ≠ t) : ¬ keyS l ((i : Nat) : Int) t = true := by
  rw [key_at h]
  show ¬ (decide (k = 3) && decide (x = t)) = true
  rw [decide_eq_false ht, Bool.and_false]; exact Bool.false_ne_true
theorem st_at {i : Nat} {k v a : Int} {x : List UInt8} (h : l[i]? = some (k, x, v, a)) : stS l i = if k = 3 then decide (x = [116, 114, 117, 101]) || (decide (x = [102, 97, 108, 115, 101]) || (decide (x = [40]) || (decide (x = [35, 49]) || decide (x = [35, 50])))) else if k = 2 then decide (-1073741824 ≤ v) && decide (v ≤ 1073741824) else decide (k = 1) && lgS x := by unfold stS; rw [tk_at h]
theorem st_end {i : Nat} (h : l.length ≤ i) : ¬ stS l i = true := by unfold stS; rw [tk_end h]; decide
theorem no_end {i : Nat} (h : l.length ≤ i) (t : List UInt8) : ¬ keyS l ((i : Nat) : Int) t = true := by rw [key_end h]; decide
/-- where an expression ends with the text -/
theorem rest_end {a : Tr} {j n i : Nat} (hn : 7 ≤ n) (hj : l.length = j) (h : ∀ m, n - 6 ≤ m → eAtom l m i = (a, j, 0)) (hk : ∀ t, ¬ keyS l ((i : Nat) : Int) t = true ∨ t ∉ [[102, 110], [108, 101, 116], [105, 102], [99, 97, 115, 101], [102, 111, 108, 100]]) : eExpr l n i = (a, j, 0) := by
  obtain ⟨m, rfl⟩ : ∃ m, n = m + 7 := ⟨n - 7, by omega⟩
  have k : ∀ t, t ∈ ([[102, 110], [108, 101, 116], [105, 102], [99, 97, 115, 101], [102, 111, 108, 100]] : List (List UInt8)) → ¬ keyS l ((i : Nat) : Int) t = true := fun t ht => by
    rcases hk t with h | h
    · exact h
    · exact absurd ht h
  have e : l.length ≤ j := by omega
  have s5 : eApp l (m + 3) i = (a, j, 0) := by rw [eApp, h (m + 2) (by omega), bnd_ok, eAppL, if_neg (st_end e)]
  have s4 : eTerm l (m + 4) i = (a, j, 0) := by rw [eTerm, s5, bnd_ok, eTermL, if_neg (no_end e _)]
  have s3 : eSum l (m + 5) i = (a, j, 0) := by rw [eSum, s4, bnd_ok, eSumL, if_neg (no_end e _), if_neg (no_end e _)]
  have s2 : eCmp l (m + 6) i = (a, j, 0) := by rw [eCmp, s3, bnd_ok, if_neg (no_end e _), if_neg (no_end e _)]
  rw [eExpr, if_neg (k _ (by simp)), if_neg (k _ (by simp)), if_neg (k _ (by simp)), if_neg (k _ (by simp)), if_neg (k _ (by simp)), s2]
/-- val x = an expression -/
theorem val_prog {e : Tr} {n : Nat} {a0 a1 a2 : Int} {v0 v1 v2 : Int} (h0 : l[0]? = some (3, kVal, v0, a0)) (h1 : l[1]? = some (1, [120], v1, a1)) (h2 : l[2]? = some (3, [61], v2, a2)) (he : exR l 3 = (e, l.length, 0)) : mDecls l (n + 3) true [] 0 = ([.node 70 0 [120] [] [e]], l.length, 0) := by
  have hv : keyS l ((0 : Nat) : Int) kVal = true := key_yes h0
  have hn : nmR l 1 = ([120], 2, 0) := by
    have : nameS l ((1 : Nat) : Int) = ([120], true) := by
      unfold nameS
      rw [tk_at h1]
      exact if_pos ⟨rfl, ck_x⟩
    unfold nmR
    rw [this]; rfl
  have hk : ks l [[61]] 2 = ((), 3, 0) := by rw [ks, if_pos (key_yes h2), ks]
  have hd : mDecl l (n + 2) true 0 = (.node 70 0 [120] [] [e], l.length, 0) := by
    rw [mDecl, if_pos hv, hn, bnd_ok, if_neg (key_no h2 (by decide))]
    unfold bhd
    rw [hk, bnd_ok]
    show bnd Tr.nil (exR l 3) _ = _
    rw [he, bnd_ok]
  have hb : ¬ (anyK l l.length [kVal, kType, kData, kStr, kOpen, kInc] || (true && anyK l l.length [kSig, kFun])) = true := by
    simp only [anyK, List.any_cons, List.any_nil, key_end (Nat.le_refl l.length)]
    decide
  rw [mDecls, if_pos (by simp only [anyK, List.any_cons, hv]; rfl), hd, bnd_ok, mDecls, if_neg hb]
  rfl
end
/-! ### long sums -/
abbrev oneT : Tr := .node 20 1 [] [] []
def sumN : Nat → Tr
  | 0 => oneT
  | w + 1 => opN 1 (sumN w) oneT
theorem one_term {l : List Token} {i n : Nat} {a : Int} (h1 : l[i]? = some (2, [49], 1, a)) (h2 : l.length ≤ i + 1 ∨ ∃ a, l[i + 1]? = some (3, [43], 0, a)) : eTerm l (n + 4) i = (oneT, i + 1, 0) := by
  have hst : stS l i = true := by rw [st_at h1]; decide
  have hs2 : ¬ stS l (i + 1) = true := by
    rcases h2 with h | ⟨b, h⟩
    · exact st_end h
    · rw [st_at h]; decide
  have hk2 : ¬ keyS l ((i + 1 : Nat) : Int) [42] = true := by
    rcases h2 with h | ⟨b, h⟩
    · exact no_end h _
    · exact key_no h (by decide)
  have ea : eAtom l (n + 2) i = (oneT, i + 1, 0) := by rw [eAtom, if_pos hst, tk_at h1]; rfl
  rw [eTerm, eApp, ea, bnd_ok, eAppL, if_neg hs2, bnd_ok, eTermL, if_neg hk2]
theorem big_sumL (w : Nat) : ∀ m j n, j + m = w → m + 5 ≤ n → eSumL (bigT w) n (sumN j) (4 + 2 * j) = (sumN w, 4 + 2 * w, 0) := by
  have hl := bigT_len w
  intro m
  induction m with
  | zero =>
    intro j n hj hn
    obtain ⟨n, rfl⟩ : ∃ q, n = q + 1 := ⟨n - 1, by omega⟩
    obtain rfl : j = w := by omega
    rw [eSumL, if_neg (no_end (by omega) _), if_neg (no_end (by omega) _)]
  | succ m ih =>
    intro j n hj hn
    obtain ⟨n, rfl⟩ : ∃ q, n = q + 4 + 1 := ⟨n - 5, by omega⟩
    obtain ⟨a, ha⟩ := big_odd (w := w) (j := j) (by omega)
    obtain ⟨b, hb⟩ := big_even (w := w) (j := j + 1) (by omega)
    rw [show 3 + 2 * (j + 1) = 4 + 2 * j + 1 by omega] at hb
    have ht := one_term (n := n) hb (by
      by_cases h : j + 1 < w
      · obtain ⟨c, hc⟩ := big_odd h
        exact .inr ⟨c, by rw [← hc, show 4 + 2 * (j + 1) = 4 + 2 * j + 1 + 1 by omega]⟩
      · exact .inl (by omega))
    rw [eSumL, if_pos (key_yes ha), ht, bnd_ok, show 4 + 2 * j + 1 + 1 = 4 + 2 * (j + 1) by omega]
    exact ih (j + 1) (n + 4) (by omega) (by omega)
theorem big_ex (w : Nat) : exR (bigT w) 3 = (sumN w, (bigT w).length, 0) := by
  have hl := bigT_len w
  obtain ⟨n, hn⟩ : ∃ n, 8 * (bigT w).length + 6 = n + 4 + 3 := ⟨8 * (bigT w).length - 1, by omega⟩
  obtain ⟨a, ha⟩ := big_even (w := w) (j := 0) (by omega)
  have ha : (bigT w)[3]? = some (2, [49], 1, a) := ha
  have hk : ∀ t, ¬ keyS (bigT w) ((3 : Nat) : Int) t = true := key_not3 ha (by decide)
  have ht := one_term (n := n) ha (by
    by_cases h : 0 < w
    · obtain ⟨c, hc⟩ := big_odd h
      exact .inr ⟨c, hc⟩
    · exact .inl (by omega))
  have e : (bigT w).length ≤ 4 + 2 * w := by omega
  have s3 : eSum (bigT w) (n + 4 + 1) 3 = (sumN w, 4 + 2 * w, 0) := by
    rw [eSum, ht, bnd_ok]
    exact big_sumL w w 0 (n + 4) (by omega) (by omega)
  have s2 : eCmp (bigT w) (n + 4 + 2) 3 = (sumN w, 4 + 2 * w, 0) := by rw [eCmp, s3, bnd_ok, if_neg (no_end e _), if_neg (no_end e _)]
  unfold exR
  rw [hn, eExpr, if_neg (hk _), if_neg (hk _), if_neg (hk _), if_neg (hk _), if_neg (hk _), s2, hl, Nat.add_comm]
theorem sumN_size : ∀ w, sizeT (sumN w) = 2 * w + 1
  | 0 => by show sizeT oneT = _; rw [sizeT_node, sizeL_nil]
  | w + 1 => by
    show sizeT (opN 1 (sumN w) oneT) = _
    unfold opN
    rw [sizeT_node, sizeL_cons, sizeL_cons, sizeL_nil, sumN_size w, sizeT_node, sizeL_nil]
    omega
theorem sumN_deep : ∀ w, deepT (sumN w) = w + 1
  | 0 => by show deepT oneT = _; rw [deepT_node, deepL_nil]
  | w + 1 => by
    show deepT (opN 1 (sumN w) oneT) = _
    unfold opN
    rw [deepT_node, deepL_cons, deepL_cons, deepL_nil, sumN_deep w, deepT_node, deepL_nil]
    omega
/-! ### deep projections -/
def fstN : Nat → Tr
  | 0 => .node 23 0 [121] [] []
  | d + 1 => .node 27 0 [] [] [fstN d]
theorem fstN_size : ∀ d, sizeT (fstN d) = d + 1
  | 0 => by show sizeT (.node 23 0 [121] [] []) = _; rw [sizeT_node, sizeL_nil]
  | d + 1 => by
    show sizeT (.node 27 0 [] [] [fstN d]) = _
    rw [sizeT_node, sizeL_cons, sizeL_nil, fstN_size d]; omega
theorem fstN_deep : ∀ d, deepT (fstN d) = d + 1
  | 0 => by show deepT (.node 23 0 [121] [] []) = _; rw [deepT_node, deepL_nil]
  | d + 1 => by
    show deepT (.node 27 0 [] [] [fstN d]) = _
    rw [deepT_node, deepL_cons, deepL_nil, fstN_deep d]; omega
def dpW (d : Nat) : List Wd := (3, kVal) :: (1, [120]) :: (3, [61]) :: (List.replicate d (3, [35, 49]) ++ [(1, [121])])
theorem dp_len (d : Nat) : (dpW d).length = d + 4 := by simp [dpW]
theorem jt_dp : ∀ d, jt (List.replicate d ((3, [35, 49]) : Wd) ++ [(1, [121])]) = 32 :: (Lib.repeatL [35, 49, 32] d ++ [121])
  | 0 => rfl
  | d + 1 => by
    show 32 :: ([35, 49] ++ jt (List.replicate d ((3, [35, 49]) : Wd) ++ [(1, [121])])) = _
    rw [jt_dp d]; rfl
theorem jn_dp (d : Nat) : jn (dpW d) = [118, 97, 108, 32, 120, 32, 61, 32] ++ Lib.repeatL [35, 49, 32] d ++ [121] := by
  show [118, 97, 108] ++ 32 :: ([120] ++ 32 :: ([61] ++ jt (List.replicate d ((3, [35, 49]) : Wd) ++ [(1, [121])]))) = _
  rw [jt_dp]; simp
theorem dp_tk (d : Nat) : ∀ x ∈ dpW d, Tk x := by
  have e1 : Tk ((3, kVal) : Wd) := tk_key (by decide) (by decide) (by decide) (by decide)
  have e2 : Tk ((1, [120]) : Wd) := tk_name (ck_one ck_x)
  have ey : ckS [121] = true := by decide +kernel
  have e3 : Tk ((1, [121]) : Wd) := tk_name (ck_one ey)
  have sg : ∀ {b : UInt8} {w : List UInt8}, (b.toNat < 127 ∧ 33 ≤ b.toNat ∧ b.toNat ≠ 126 ∧ cls ((b.toNat : Nat) : Int) = 0) → (∀ c ∈ w, 32 ≤ c.toNat ∧ c.toNat < 127) → w.length ≤ 10 →
      (fnd sgns (b :: w) = (3, b :: w, 0, 0, (((b :: w).length : Nat) : Int), true) ∧ List.isPrefixOf [40, 42] (b :: w) = false) →
      (∀ t, fnd sgns (b :: w ++ 32 :: t) = (3, b :: w, 0, 0, (((b :: w).length : Nat) : Int), true) ∧ List.isPrefixOf [40, 42] (b :: w ++ 32 :: t) = false) → Tk (3, b :: w) := fun h1 h2 h3 h4 h5 =>
      tk_sign h1 h2 h3 fun tail ht => by
        rcases ht with rfl | ⟨t, rfl⟩
        · rw [List.append_nil]; exact h4
        · exact h5 t
  have e4 : Tk ((3, [61]) : Wd) := sg (by decide) (by decide) (by decide) ⟨rfl, rfl⟩ fun t => ⟨rfl, rfl⟩
  have e5 : Tk ((3, [35, 49]) : Wd) := sg (by decide) (by decide) (by decide) ⟨rfl, rfl⟩ fun t => ⟨rfl, rfl⟩
  intro x hx
  simp only [dpW, List.mem_cons, List.mem_append, List.mem_replicate, List.not_mem_nil, or_false] at hx
  rcases hx with rfl | rfl | rfl | ⟨_, rfl⟩ | rfl
  · exact e1
  · exact e2
  · exact e4
  · exact e5
  · exact e3
section
variable {d : Nat} {l : List Token} (h : l.map kt = dpW d)
include h
theorem dp_at {i : Nat} {x : Wd} (hx : (dpW d)[i]? = some x) : ∃ v a, l[i]? = some (x.1, x.2, v, a) := by
  rw [← h, List.getElem?_map] at hx
  cases hk : l[i]? with
  | none => rw [hk] at hx; cases hx
  | some k =>
    rw [hk] at hx
    have e : kt k = x := Option.some.inj hx
    subst e
    exact ⟨k.2.2.1, k.2.2.2, rfl⟩
theorem dp_llen : l.length = d + 4 := by
  have := congrArg List.length h
  rw [List.length_map, dp_len] at this
  exact this
theorem dp_atom : ∀ m j n, j + m = d → m + 1 ≤ n → eAtom l n (3 + j) = (fstN m, 4 + d, 0) := by
  have hy : lgS [121] = true := by decide +kernel
  intro m
  induction m with
  | zero =>
    intro j n hj hn
    obtain ⟨n, rfl⟩ : ∃ q, n = q + 1 := ⟨n - 1, by omega⟩
    obtain rfl : j = d := by omega
    obtain ⟨v, a, hk⟩ := dp_at h (i := 3 + j) (x := (1, [121])) (by
      rw [show 3 + j = j + 1 + 1 + 1 by omega]
      show (List.replicate j ((3, [35, 49]) : Wd) ++ [(1, [121])])[j]? = _
      rw [List.getElem?_append_right (by simp), List.length_replicate, Nat.sub_self]; rfl)
    have hst : stS l (3 + j) = true := by
      rw [st_at hk, if_neg (by decide), if_neg (by decide), hy]; rfl
    rw [eAtom, if_pos hst, tk_at hk]
    show (if (1 : Int) = 2 then _ else if (1 : Int) = 1 then _ else _) = _
    rw [if_neg (by decide), if_pos rfl, show 3 + j + 1 = 4 + j by omega]; rfl
  | succ m ih =>
    intro j n hj hn
    obtain ⟨n, rfl⟩ : ∃ q, n = q + 1 := ⟨n - 1, by omega⟩
    obtain ⟨v, a, hk⟩ := dp_at h (i := 3 + j) (x := (3, [35, 49])) (by
      rw [show 3 + j = j + 1 + 1 + 1 by omega]
      show (List.replicate d ((3, [35, 49]) : Wd) ++ [(1, [121])])[j]? = _
      rw [List.getElem?_append_left (by simp; omega), List.getElem?_replicate, if_pos (by omega)])
    have hst : stS l (3 + j) = true := by
      rw [st_at hk, if_pos rfl]; decide
    have nxt := ih (j + 1) n (by omega) (by omega)
    rw [eAtom, if_pos hst, tk_at hk]
    show (if (3 : Int) = 2 then _ else if (3 : Int) = 1 then _ else if ([35, 49] : List UInt8) = [116, 114, 117, 101] then _ else if ([35, 49] : List UInt8) = [102, 97, 108, 115, 101] then _ else if ([35, 49] : List UInt8) = [35, 49] then bnd Tr.nil (eAtom l n (3 + j + 1)) fun a i => (Tr.node 27 0 [] [] [a], i, 0) else _) = _
    rw [if_neg (by decide), if_neg (by decide), if_neg (by decide), if_neg (by decide), if_pos rfl, Nat.add_assoc 3 j 1, nxt, bnd_ok]; rfl
theorem dp_prog (n : Nat) : mDecls l (n + 3) true [] 0 = ([.node 70 0 [120] [] [fstN d]], l.length, 0) := by
  have hl := dp_llen h
  obtain ⟨v0, a0, h0⟩ := dp_at h (i := 0) (x := (3, kVal)) rfl
  obtain ⟨v1, a1, h1⟩ := dp_at h (i := 1) (x := (1, [120])) rfl
  obtain ⟨v2, a2, h2⟩ := dp_at h (i := 2) (x := (3, [61])) rfl
  refine val_prog h0 h1 h2 ?_
  unfold exR
  rw [hl]
  refine rest_end (by omega) (by omega) (fun m hm => ?_) (fun t => ?_)
  · have := dp_atom h d 0 m (by omega) (by omega)
    rw [this, Nat.add_comm]
  · by_cases ht : t ∈ ([[102, 110], [108, 101, 116], [105, 102], [99, 97, 115, 101], [102, 111, 108, 100]] : List (List UInt8))
    · refine .inl ?_
      cases d with
      | zero =>
        obtain ⟨v, a, hk⟩ := dp_at h (i := 3) (x := (1, [121])) rfl
        exact key_not3 hk (by decide) t
      | succ d =>
        obtain ⟨v, a, hk⟩ := dp_at h (i := 3) (x := (3, [35, 49])) rfl
        refine key_no hk ?_
        simp only [List.mem_cons, List.not_mem_nil, or_false] at ht
        rcases ht with rfl | rfl | rfl | rfl | rfl <;> exact show ([35, 49] : List UInt8) ≠ _ by decide
    · exact .inr ht
end
end Go.Proofs.YtnogkihchgnbcaaGreatDoor

/- The law PmodLarge. -/
namespace Go.Proofs.YtnogkihchgnbcaaGreatDoor
open Go Go.Am Go.Sx
theorem divI_rem' {k : IntKind} {a b : Int} (h : b ≠ 0) : divI .rem k a b = some (a.tmod b) := by
  unfold divI
  exact if_neg h
theorem tmod_in {x : Int} {n : Nat} (h : 0 < n) : -(n : Int) < x.tmod n ∧ x.tmod n < n := by
  have h1 := Int.tmod_lt_of_pos x (b := (n : Int)) (by omega)
  refine ⟨?_, h1⟩
  have h2 := Int.lt_tmod_of_pos x (b := (n : Int)) (by omega)
  omega
/-- between none and one less than the divisor -/
theorem mod_up {x : Int} {n : Nat} (h : 0 < n) (hn : n ≤ 1000) : ∃ q : Nat, q < n ∧ (IntKind.i64.wrap (x.tmod (n : Int) + (n : Int))).tmod (n : Int) = (q : Int) := by
  have hb := tmod_in (x := x) h
  rw [wrap_id (by omega) (by omega)]
  obtain ⟨y, hy⟩ : ∃ y : Nat, x.tmod (n : Int) + (n : Int) = (y : Int) := ⟨(x.tmod (n : Int) + (n : Int)).toNat, by omega⟩
  rw [hy, ← Int.ofNat_tmod]
  exact ⟨y % n, Nat.mod_lt _ h, rfl⟩
theorem ev_repeat {l : List UInt8} {n : Nat} (h : l.length ≤ 10) (hn : n ≤ 100000) : Ev (fun K => strings_Repeat K l (n : Int)) (Lib.repeatL l n) := by
  refine ⟨0, fun K _ => ?_⟩
  show strings_Repeat K l (n : Int) = some (Lib.repeatL l n)
  rw [strings_Repeat, if_pos]
  · rw [Int.toNat_natCast]
  · refine ⟨by omega, by omega, ?_⟩
    rw [Int.toNat_natCast]
    have : l.length * n ≤ 10 * 100000 := Nat.mul_le_mul h hn
    omega
/-- a long sum is refused: as too long, or as too deep -/
theorem src_big {w : Nat} (h1 : 4090 ≤ w) (h2 : w ≤ 5000) : Ev (fun K => pmod_Source K (bigS w)) (.nil, 0, if 8192 < 2 * w + 3 then 3 else 7) := by
  have hs := big_len w
  have ht := bigT_len w
  have := ev_src (s := bigS w) (n := 100000 + 3) (by omega) (rk_big w) (lx_big w) (by omega)
  rw [val_prog rfl rfl rfl (big_ex w)] at this
  refine Ev.cast this ?_
  unfold srcA
  simp only
  have e1 : sizeT (progT [.node 70 0 [120] [] [sumN w]]) = 2 * w + 3 := by
    rw [sizeT_node, sizeL_cons, sizeL_nil, sizeT_node, sizeL_cons, sizeL_nil, sumN_size]; omega
  have e2 : deepT (progT [.node 70 0 [120] [] [sumN w]]) = w + 3 := by
    rw [deepT_node, deepL_cons, deepL_nil, deepT_node, deepL_cons, deepL_nil, sumN_deep]; omega
  rw [if_pos ⟨trivial, trivial⟩, e1, e2]
  by_cases hc : 8192 < 2 * w + 3
  · rw [if_pos hc, if_pos hc]
  · rw [if_neg hc, if_neg hc, if_pos (by omega)]
/-- a deep projection is read, or refused as too deep -/
theorem src_deep {d : Nat} (h : d ≤ 1000) : Ev (fun K => pmod_Source K ([118, 97, 108, 32, 120, 32, 61, 32] ++ Lib.repeatL [35, 49, 32] d ++ [121])) (if 60 < d + 3 then (.nil, 0, 7) else (progT [.node 70 0 [120] [] [fstN d]], 0, 0)) := by
  have e := jn_dp d
  have hlen : (jn (dpW d)).length = 3 * d + 9 := by
    rw [e, List.length_append, List.length_append, Lib.repeatL_length]
    simp only [List.length_cons, List.length_nil]
    omega
  rw [← e]
  obtain ⟨toks, q1, _, q2⟩ := ev_lex (ws := dpW d) (by simp [dpW]) (dp_tk d) (by omega)
  have hl := dp_llen q1
  rcases ev_lex_all (s := jn (dpW d)) (by omega) with ⟨hr, hx⟩ | ⟨_, j, _, hx⟩
  · have hx := Ev.unique hx q2
    have := ev_src (s := jn (dpW d)) (n := 100000 + 3) (by omega) hr hx (by omega)
    rw [dp_prog q1] at this
    refine Ev.cast this ?_
    unfold srcA
    simp only
    have e1 : sizeT (progT [.node 70 0 [120] [] [fstN d]]) = d + 3 := by
      rw [sizeT_node, sizeL_cons, sizeL_nil, sizeT_node, sizeL_cons, sizeL_nil, fstN_size]; omega
    have e2 : deepT (progT [.node 70 0 [120] [] [fstN d]]) = d + 3 := by
      rw [deepT_node, deepL_cons, deepL_nil, deepT_node, deepL_cons, deepL_nil, fstN_deep]; omega
    rw [if_pos ⟨trivial, trivial⟩, e1, e2, if_neg (by omega)]
  · have := Ev.unique hx q2
    exact absurd (show (4 : Int) = 0 from congrArg (·.2.2) this) (by decide)
/-- The plain law PmodLarge. -/
theorem law08_PmodLarge_true (a b : Int) : ∃ K, law08_PmodLarge K a b = some true := by
  refine Ev.get (f := fun K => law08_PmodLarge K a b) ?_
  refine Ev.congr (f := fun K => _) ?_ (fun k => by rw [law08_PmodLarge])
  refine Ev.opt (divI_rem' (by decide)) ?_
  refine Ev.opt (divI_rem' (by decide)) ?_
  refine Ev.opt (divI_rem' (by decide)) ?_
  refine Ev.opt (divI_rem' (by decide)) ?_
  obtain ⟨p, hp, e1⟩ := mod_up (x := a) (n := 12) (by omega) (by omega)
  obtain ⟨q, hq, e2⟩ := mod_up (x := b) (n := 20) (by omega) (by omega)
  have e1 : (IntKind.i64.wrap (a.tmod 12 + 12)).tmod 12 = (p : Int) := e1
  have e2 : (IntKind.i64.wrap (b.tmod 20 + 20)).tmod 20 = (q : Int) := e2
  rw [e1, e2]
  have w1 : IntKind.i64.wrap (4090 + (p : Int)) = ((4090 + p : Nat) : Int) := by rw [wrap_id (by omega) (by omega)]; omega
  have w2 : IntKind.i64.wrap (50 + (q : Int)) = ((50 + q : Nat) : Int) := by rw [wrap_id (by omega) (by omega)]; omega
  rw [w1, w2]
  have hb := big_len (4090 + p)
  have hsrc := src_big (w := 4090 + p) (by omega) (by omega)
  have hdp := src_deep (d := 50 + q) (by omega)
  have w3 : IntKind.i64.wrap (2 * ((4090 + p : Nat) : Int)) = ((2 * (4090 + p) : Nat) : Int) := by rw [wrap_id (by omega) (by omega)]; omega
  have w4 : IntKind.i64.wrap (((2 * (4090 + p) : Nat) : Int) + 3) = ((2 * (4090 + p) + 3 : Nat) : Int) := by rw [wrap_id (by omega) (by omega)]; omega
  rw [w3, w4]
  have tail : Ev (fun K => (strings_Repeat K ([35, 49, 32] : List UInt8) ((50 + q : Nat) : Int)).bind fun v16 => ((Go.Am.catS ([118, 97, 108, 32, 120, 32, 61, 32] : List UInt8) v16).bind fun v17 => ((Go.Am.catS v17 ([121] : List UInt8)).bind fun v18 => ((pmod_Source K v18).bind fun (v19, v20, v21) => (law08_PmodLarge_c0 K ((50 + q : Nat) : Int) v19 v21))))) true := by
    have hr := Lib.repeatL_length [35, 49, 32] (50 + q)
    simp only [List.length_cons, List.length_nil] at hr
    refine Ev.bind (ev_repeat (by decide) (by omega)) ?_
    refine Ev.opt (catS_ok (show 8 + (Lib.repeatL [35, 49, 32] (50 + q)).length ≤ 9223372036854775807 by omega)) ?_
    refine Ev.opt (catS_ok (by rw [List.length_append]; show 8 + (Lib.repeatL [35, 49, 32] (50 + q)).length + 1 ≤ 9223372036854775807; omega)) ?_
    refine Ev.bind hdp ?_
    by_cases hd : 60 < 50 + q + 3
    · rw [if_pos hd]
      refine Ev.step (F := fun K => law08_PmodLarge_c0 K ((50 + q : Nat) : Int) .nil 7) (fun k => by rw [law08_PmodLarge_c0]) ?_
      rw [wrap_id (by omega) (by omega)]
      refine Ev.dT (by omega) ?_
      refine Ev.step (fun k => by rw [law08_PmodLarge_c1]) ?_
      refine Ev.dT rfl ?_
      refine Ev.isT (by decide) ?_
      exact Ev.ret ev_works8
    · rw [if_neg hd]
      refine Ev.step (F := fun K => law08_PmodLarge_c0 K ((50 + q : Nat) : Int) (progT [.node 70 0 [120] [] [fstN (50 + q)]]) 0) (fun k => by rw [law08_PmodLarge_c0]) ?_
      rw [wrap_id (by omega) (by omega)]
      refine Ev.dF (by omega) ?_
      refine Ev.step (fun k => by rw [law08_PmodLarge_c1]) ?_
      refine Ev.dT rfl ?_
      refine Ev.isT (by decide) ?_
      exact Ev.ret ev_works8
  have hr := Lib.repeatL_length [49, 43] (4090 + p)
  simp only [List.length_cons, List.length_nil] at hr
  refine Ev.bind (ev_repeat (by decide) (by omega)) ?_
  refine Ev.opt (catS_ok (show 6 + (Lib.repeatL [49, 43] (4090 + p)).length ≤ 9223372036854775807 by omega)) ?_
  refine Ev.opt (catS_ok (by rw [List.length_append]; show 6 + (Lib.repeatL [49, 43] (4090 + p)).length + 1 ≤ 9223372036854775807; omega)) ?_
  rw [show ([118, 97, 108, 32, 120, 61] : List UInt8) ++ Lib.repeatL [49, 43] (4090 + p) ++ [49] = bigS (4090 + p) by unfold bigS sumS; rw [List.append_assoc]]
  refine Ev.bind hsrc ?_
  by_cases hc : 8192 < 2 * (4090 + p) + 3
  · rw [if_pos hc]
    refine Ev.nF rfl ?_
    refine Ev.nF rfl ?_
    refine Ev.isF ?_ tail
    rw [decide_eq_true (by omega : (8192 : Int) < ((2 * (4090 + p) + 3 : Nat) : Int))]
    decide
  · rw [if_neg hc]
    refine Ev.nT (show ¬ (7 : Int) = 3 by decide) ?_
    refine Ev.nF rfl ?_
    refine Ev.nF rfl ?_
    refine Ev.isF ?_ tail
    rw [decide_eq_false (by omega : ¬ (8192 : Int) < ((2 * (4090 + p) + 3 : Nat) : Int))]
    decide
end Go.Proofs.YtnogkihchgnbcaaGreatDoor

