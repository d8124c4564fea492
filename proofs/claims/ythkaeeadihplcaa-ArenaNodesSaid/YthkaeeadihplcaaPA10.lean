/- Plain facts of layer 4 (arena), part 10: what is put is found; the paths of a kind lead to nodes of it, and none of them leads past a later one. -/
import Derived.Test.YthkaeeadihplcaaPA9
namespace Go.Proofs.Ythkaeeadihplcaa
open Go Go.Am

theorem pathsL_all : ∀ {l : List Tr} (i : Nat), (∀ x ∈ l, (pathsT (-1) x).length = sizeT x) → (pathsL (-1) l i).length = sizeL l
  | [], i, _ => by simp [pathsL_nil, sizeL_nil]
  | k :: l, i, h => by
    rw [pathsL_cons, sizeL_cons, List.length_append, List.length_map, h k List.mem_cons_self, pathsL_all (l := l) (i + 1) fun x hx => h x (List.mem_cons_of_mem _ hx)]
theorem pathsT_all : ∀ t : Tr, (pathsT (-1) t).length = sizeT t := Tr.ind (by simp [pathsT_nil, sizeT_nil]) fun k n nm mk ks ih => by
  rw [pathsT_node, sizeT_node, List.length_append, pathsL_all 0 ih, if_pos (by omega)]
  simp

def kindOf : Tr → Int
  | .nil => 0
  | .node k _ _ _ _ => k

theorem paths_at (kind : Int) : ∀ (t : Tr) (p : List Int), p ∈ pathsT kind t → (atR t p).2 = 0 ∧ (atR t p).1 ≠ .nil ∧ (kind < 0 ∨ kindOf (atR t p).1 = kind) := Tr.ind
  (fun p h => by rw [pathsT_nil] at h; cases h)
  fun k n nm mk ks ih p h => by
    rw [pathsT_node] at h
    rcases List.mem_append.1 h with h | h
    · split at h
      · rename_i hk
        rw [List.mem_singleton.1 h]
        exact ⟨by rw [atR], by rw [atR]; simp, by rw [atR]; exact hk⟩
      · cases h
    · obtain ⟨j, x, q, h1, rfl, h3⟩ := pathsL_mem h
      have hj : j < ks.length := (List.getElem?_eq_some_iff.1 h1).1
      have e : kidAt (.node k n nm mk ks) ((0 + j : Nat) : Int) = x := by
        rw [kidAt_in (by omega) (by omega)]
        have := (List.getElem?_eq_some_iff.1 h1).2
        simpa using this
      have hx : x ≠ .nil := fun e => by subst e; rw [pathsT_nil] at h3; cases h3
      rw [atR, e, if_neg hx]
      exact ih x (List.mem_of_getElem? h1) q h3

theorem at_form {t : Tr} {k : Int} {path : List Int} (ha : (atR t (k :: path)).2 = 0) : ∃ a b nm mk ks, t = .node a b nm mk ks ∧ 0 ≤ k ∧ k.toNat < ks.length ∧ kidAt t k ≠ .nil ∧ (atR (kidAt t k) path).2 = 0 := by
  obtain ⟨h1, h2⟩ := at_cons ha
  have h0 : 0 ≤ k := by
    by_cases h : 0 ≤ k
    · exact h
    · exact absurd (kidAt_neg (by omega)) h1
  cases t with
  | nil => unfold kidAt at h1; rw [if_pos h0] at h1; simp [kidsOf] at h1
  | node a b nm mk ks =>
    have hin : k.toNat < ks.length := by
      by_cases h : k.toNat < ks.length
      · exact h
      · exact absurd (kidAt_big (by omega)) h1
    exact ⟨a, b, nm, mk, ks, rfl, h0, hin, h1, h2⟩

theorem kidAt_set {a b : Int} {nm mk : List UInt8} {ks : List Tr} {k : Int} {y : Tr} (h0 : 0 ≤ k) (h : k.toNat < ks.length) : kidAt (.node a b nm mk (ks.set k.toNat y)) k = y := by
  rw [kidAt_in h0 (by simpa using h), List.getElem_set_self]

theorem putR_ne : ∀ (p : List Int) (t s : Tr), t ≠ .nil → s ≠ .nil → putR t p s ≠ .nil
  | [], t, s, _, hs => by simpa [putR] using hs
  | k :: p, .nil, s, ht, _ => absurd rfl ht
  | k :: p, .node a b nm mk ks, s, _, _ => by rw [putR]; simp

theorem put_found : ∀ (p : List Int) (t s : Tr), (atR t p).2 = 0 → s ≠ .nil → atR (putR t p s) p = (s, 0)
  | [], t, s, _, _ => by simp [putR, atR]
  | k :: p, t, s, ha, hs => by
    obtain ⟨a, b, nm, mk, ks, rfl, h0, hin, h1, h2⟩ := at_form ha
    rw [putR, atR, kidAt_set h0 hin, if_neg (putR_ne p _ s h1 hs)]
    exact put_found p _ s h2 hs

theorem put_back : ∀ (p : List Int) (t s : Tr), (atR t p).2 = 0 → putR (putR t p s) p (atR t p).1 = t
  | [], t, s, _ => by simp [putR, atR]
  | k :: p, t, s, ha => by
    obtain ⟨a, b, nm, mk, ks, rfl, h0, hin, h1, h2⟩ := at_form ha
    have ih := put_back p _ s h2
    rw [atR, if_neg h1, putR, putR, kidAt_set h0 hin, ih, List.set_set, kidAt_in h0 hin, List.set_getElem_self]

theorem sizeL_set : ∀ (l : List Tr) (i : Nat) (x : Tr) (h : i < l.length), sizeL (l.set i x) + sizeT l[i] = sizeL l + sizeT x
  | k :: l, 0, x, _ => by rw [List.set_cons_zero, sizeL_cons, sizeL_cons]; simp; omega
  | k :: l, i + 1, x, h => by
    rw [List.set_cons_succ, sizeL_cons, sizeL_cons]
    have := sizeL_set l i x (by simpa using h)
    simp only [List.getElem_cons_succ]
    omega

theorem put_size : ∀ (p : List Int) (t s : Tr), (atR t p).2 = 0 → sizeT (putR t p s) + sizeT (atR t p).1 = sizeT t + sizeT s
  | [], t, s, _ => by simp [putR, atR]; omega
  | k :: p, t, s, ha => by
    obtain ⟨a, b, nm, mk, ks, rfl, h0, hin, h1, h2⟩ := at_form ha
    have ih := put_size p _ s h2
    rw [atR, if_neg h1, putR, sizeT_node, sizeT_node]
    have := sizeL_set ks k.toNat (putR (kidAt (.node a b nm mk ks) k) p s) hin
    rw [← kidAt_in (a := a) (b := b) (nm := nm) (mk := mk) h0 hin] at this
    omega

/-- Of two paths the later one is no beginning of the earlier one. -/
theorem paths_order (kind : Int) : ∀ t : Tr, (pathsT kind t).Pairwise fun x y => ¬ y <+: x := Tr.ind
  (by rw [pathsT_nil]; exact List.Pairwise.nil)
  fun k n nm mk ks ih => by
    have loop : ∀ (l : List Tr) (i : Nat), (∀ x ∈ l, (pathsT kind x).Pairwise fun x y => ¬ y <+: x) → (pathsL kind l i).Pairwise fun x y => ¬ y <+: x := by
      intro l
      induction l with
      | nil => intro i _; rw [pathsL_nil]; exact List.Pairwise.nil
      | cons x l ihl =>
        intro i h
        rw [pathsL_cons, List.pairwise_append]
        refine ⟨?_, ihl (i + 1) fun y hy => h y (List.mem_cons_of_mem _ hy), fun a ha b hb hab => ?_⟩
        · rw [List.pairwise_map]
          refine (h x List.mem_cons_self).imp fun {a b} hab hp => hab ?_
          rw [List.cons_prefix_cons] at hp
          exact hp.2
        · obtain ⟨q, _, rfl⟩ := List.mem_map.1 ha
          obtain ⟨j, y, q2, _, rfl, _⟩ := pathsL_mem hb
          rw [List.cons_prefix_cons] at hab
          omega
    rw [pathsT_node, List.pairwise_append]
    refine ⟨?_, loop ks 0 ih, fun a ha b hb hab => ?_⟩
    · split
      · exact List.pairwise_singleton _ _
      · exact List.Pairwise.nil
    · split at ha
      · rw [List.mem_singleton.1 ha] at hab
        obtain ⟨j, y, q2, _, rfl, _⟩ := pathsL_mem hb
        simp at hab
      · cases ha
end Go.Proofs.Ythkaeeadihplcaa
