/- Plain facts: functions with fuel that come to an answer; numbers that do not wrap; lists looked up at numbers. -/
import Derived.Test.YthkaeeadihplcaaAm12
namespace Go.Am
open Go

/-- With fuel enough, f comes to v. -/
def Ev {α : Type} (f : Nat → Option α) (v : α) : Prop := ∃ N, ∀ K, N ≤ K → f K = some v

section
variable {α β : Type}
theorem Ev.pure {v : α} : Ev (fun _ => some v) v := ⟨0, fun _ _ => rfl⟩
theorem Ev.pure' {u v : α} (h : u = v) : Ev (fun _ => some u) v := h ▸ Ev.pure
theorem Ev.bind {f : Nat → Option α} {g : α → Nat → Option β} {a : α} {b : β} (h : Ev f a) (k : Ev (g a) b) : Ev (fun K => (f K).bind fun x => g x K) b := by
  obtain ⟨N, hN⟩ := h
  obtain ⟨M, hM⟩ := k
  refine ⟨max N M, fun K hK => ?_⟩
  have h1 := hN K (by omega)
  have h2 := hM K (by omega)
  simp only [h1, Option.bind_some, h2]
theorem Ev.opt {x : Option α} {g : α → Nat → Option β} {a : α} {b : β} (h : x = some a) (k : Ev (g a) b) : Ev (fun K => x.bind fun y => g y K) b := by
  subst h; exact k
theorem Ev.step {F G : Nat → Option α} {v : α} (h : ∀ k, F (k + 1) = G k) (k : Ev G v) : Ev F v := by
  obtain ⟨N, hN⟩ := k
  refine ⟨N + 1, fun K hK => ?_⟩
  obtain ⟨K', rfl⟩ : ∃ K', K = K' + 1 := ⟨K - 1, by omega⟩
  rw [h]; exact hN K' (by omega)
theorem Ev.iteT {c : Prop} [Decidable c] {f g : Nat → Option α} {v : α} (hc : c) (h : Ev f v) : Ev (fun K => if c then f K else g K) v := by
  simp only [if_pos hc]; exact h
theorem Ev.iteF {c : Prop} [Decidable c] {f g : Nat → Option α} {v : α} (hc : ¬ c) (h : Ev g v) : Ev (fun K => if c then f K else g K) v := by
  simp only [if_neg hc]; exact h
theorem Ev.ite {c : Prop} [Decidable c] {f g : Nat → Option α} {v : α} (h1 : c → Ev f v) (h2 : ¬ c → Ev g v) : Ev (fun K => if c then f K else g K) v := by
  by_cases hc : c
  · exact Ev.iteT hc (h1 hc)
  · exact Ev.iteF hc (h2 hc)
theorem Ev.unique {f : Nat → Option α} {u v : α} (h : Ev f u) (k : Ev f v) : u = v := by
  obtain ⟨N, hN⟩ := h
  obtain ⟨M, hM⟩ := k
  have h1 := hN (max N M) (by omega)
  have h2 := hM (max N M) (by omega)
  rw [h1] at h2
  exact Option.some.inj h2
theorem Ev.get {f : Nat → Option α} {v : α} (h : Ev f v) : ∃ K, f K = some v := ⟨_, h.choose_spec _ (Nat.le_refl _)⟩
theorem Ev.congr {f g : Nat → Option α} {v : α} (h : Ev f v) (e : ∀ k, g k = f k) : Ev g v := by
  obtain ⟨N, hN⟩ := h
  exact ⟨N, fun K hK => (e K).trans (hN K hK)⟩

theorem wrap_id {x : Int} (h1 : -9223372036854775808 ≤ x) (h2 : x ≤ 9223372036854775807) : IntKind.i64.wrap x = x := by
  show (if (true && decide (x % 18446744073709551616 ≥ 9223372036854775808)) = true then x % 18446744073709551616 - 18446744073709551616 else x % 18446744073709551616) = x
  simp only [Bool.true_and, decide_eq_true_eq]
  split <;> omega

theorem wrap_nat {n : Nat} (h : n < 9223372036854775807) : IntKind.i64.wrap ((n : Int) + 1) = ((n + 1 : Nat) : Int) := by
  rw [wrap_id (by omega) (by omega)]; omega

theorem getI_nat {l : List α} {j : Nat} : getI l (j : Int) = l[j]? := by
  unfold getI; rw [if_pos (by omega)]; rfl
theorem getI_lt {l : List α} {j : Nat} (h : j < l.length) : getI l (j : Int) = some l[j] := by
  rw [getI_nat, List.getElem?_eq_getElem h]
theorem getI_int {l : List α} {x : Int} (h0 : 0 ≤ x) (h : x.toNat < l.length) : getI l x = some l[x.toNat] := by
  unfold getI; rw [if_pos h0, List.getElem?_eq_getElem h]

theorem appL_ok {by' : Nat} {l m : List α} (h : (l.length + m.length) * by' ≤ 140737488355328) : appL by' l m = some (l ++ m) := by
  unfold appL; rw [if_pos h]
theorem mkL_ok {by' : Nat} {z : α} {n : Nat} (h : n * by' ≤ 140737488355328) : mkL by' z (n : Int) = some (List.replicate n z) := by
  unfold mkL; rw [if_pos ⟨by omega, by simpa using h⟩]; rfl
theorem subL_ok {l : List α} {a b : Nat} (h1 : a ≤ b) (h2 : b ≤ l.length) : subL l (a : Int) (b : Int) = some ((l.take b).drop a) := by
  unfold subL; rw [if_pos ⟨by omega, by omega, by omega⟩]; rfl
theorem catS_ok {l r : List UInt8} (h : l.length + r.length ≤ 9223372036854775807) : catS l r = some (l ++ r) := by
  unfold catS; rw [if_pos h]

theorem dec_t {p : Prop} [Decidable p] (h : p) : decide p = true := decide_eq_true h
theorem dec_f {p : Prop} [Decidable p] (h : ¬ p) : ¬ decide p = true := by simp [h]
theorem ndec_t {p : Prop} [Decidable p] (h : ¬ p) : (!decide p) = true := by simp [h]
theorem ndec_f {p : Prop} [Decidable p] (h : p) : ¬ (!decide p) = true := by simp [h]

/-- How much a tree is: all that lies in it, nothing too. -/
def Tr.w : Tr → Nat
  | .nil => 1
  | .node _ _ _ _ ks => 1 + go ks
where go : List Tr → Nat
  | [] => 0
  | k :: ks => k.w + go ks

abbrev wL (l : List Tr) : Nat := Tr.w.go l
theorem wL_nil : wL [] = 0 := by simp [Tr.w.go]
theorem wL_cons (k : Tr) (ks : List Tr) : wL (k :: ks) = k.w + wL ks := by simp [Tr.w.go]
theorem w_node {k n nm mk ks} : (Tr.node k n nm mk ks).w = 1 + wL ks := by simp [Tr.w]
theorem w_pos (t : Tr) : 1 ≤ t.w := by cases t <;> simp [Tr.w]
theorem wL_mem {k : Tr} : ∀ {l : List Tr}, k ∈ l → k.w ≤ wL l
  | x :: l, h => by
    rw [wL_cons]
    rcases List.mem_cons.1 h with rfl | h
    · omega
    · have := wL_mem h; omega
theorem wL_len : ∀ (l : List Tr), l.length ≤ wL l
  | [] => by simp
  | k :: l => by rw [wL_cons]; have := wL_len l; have := w_pos k; simp; omega
theorem wL_append : ∀ (l m : List Tr), wL (l ++ m) = wL l + wL m
  | [], m => by simp [wL_nil]
  | k :: l, m => by rw [List.cons_append, wL_cons, wL_cons, wL_append l m]; omega

/-- Trees, by how much they are. -/
theorem Tr.ind {p : Tr → Prop} (h0 : p .nil) (h1 : ∀ k n nm mk ks, (∀ x ∈ ks, p x) → p (.node k n nm mk ks)) : ∀ t, p t := by
  have : ∀ n (t : Tr), t.w ≤ n → p t := by
    intro n
    induction n with
    | zero => intro t h; have := w_pos t; omega
    | succ n ih =>
      intro t h
      cases t with
      | nil => exact h0
      | node k m nm mk ks =>
        refine h1 _ _ _ _ _ fun x hx => ih x ?_
        rw [w_node] at h
        have := wL_mem hx
        omega
  exact fun t => this t.w t (Nat.le_refl _)

theorem drop_get {l : List α} {i : Nat} (h : i < l.length) : l.drop i = l[i] :: l.drop (i + 1) := List.drop_eq_getElem_cons h
theorem take_get' {l : List α} {i : Nat} (h : i < l.length) : l.take (i + 1) = l.take i ++ [l[i]] := by
  rw [List.take_add_one, List.getElem?_eq_getElem h]; rfl
end
end Go.Am
