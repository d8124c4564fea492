/- Plain facts of layer 4 (arena), part 1: size, depth, likeness, the law's cells, its example. -/
import Derived.Test.YthkaeeadihplcaaP0
import Derived.Test.YthkaeeadihplcaaGFn
namespace Go.Proofs.Ythkaeeadihplcaa
open Go Go.Am

def sizeT : Tr → Nat
  | .nil => 0
  | .node _ _ _ _ ks => 1 + go ks
where go : List Tr → Nat
  | [] => 0
  | k :: ks => sizeT k + go ks
abbrev sizeL (l : List Tr) : Nat := sizeT.go l
theorem sizeL_nil : sizeL [] = 0 := by simp [sizeT.go]
theorem sizeL_cons (k : Tr) (ks : List Tr) : sizeL (k :: ks) = sizeT k + sizeL ks := by simp [sizeT.go]
theorem sizeT_nil : sizeT .nil = 0 := by simp [sizeT]
theorem sizeT_node {k n nm mk ks} : sizeT (Tr.node k n nm mk ks) = 1 + sizeL ks := by simp [sizeT]
theorem sizeL_le : ∀ {l : List Tr}, (∀ x ∈ l, sizeT x ≤ x.w) → sizeL l ≤ wL l
  | [], _ => by simp [sizeL_nil, wL_nil]
  | k :: l, h => by
    rw [sizeL_cons, wL_cons]
    have := h k List.mem_cons_self
    have := sizeL_le (l := l) fun x hx => h x (List.mem_cons_of_mem _ hx)
    omega
theorem sizeT_le : ∀ t : Tr, sizeT t ≤ t.w := Tr.ind (by simp [sizeT_nil]) fun k n nm mk ks ih => by
  rw [sizeT_node, w_node]; have := sizeL_le ih; omega

def deepT : Tr → Nat
  | .nil => 0
  | .node _ _ _ _ ks => go ks 0 + 1
where go : List Tr → Nat → Nat
  | [], d => d
  | k :: ks, d => go ks (max d (deepT k))
abbrev deepL (l : List Tr) (d : Nat) : Nat := deepT.go l d
theorem deepL_nil (d : Nat) : deepL [] d = d := by simp [deepT.go]
theorem deepL_cons (k : Tr) (ks : List Tr) (d : Nat) : deepL (k :: ks) d = deepL ks (max d (deepT k)) := by simp [deepT.go]
theorem deepT_nil : deepT .nil = 0 := by simp [deepT]
theorem deepT_node {k n nm mk ks} : deepT (Tr.node k n nm mk ks) = deepL ks 0 + 1 := by simp [deepT]
theorem deepL_le : ∀ {l : List Tr} (d : Nat), (∀ x ∈ l, deepT x ≤ x.w) → deepL l d ≤ d + wL l
  | [], d, _ => by simp [deepL_nil, wL_nil]
  | k :: l, d, h => by
    rw [deepL_cons, wL_cons]
    have := h k List.mem_cons_self
    have := deepL_le (l := l) (max d (deepT k)) fun x hx => h x (List.mem_cons_of_mem _ hx)
    omega
theorem deepT_le : ∀ t : Tr, deepT t ≤ t.w := Tr.ind (by simp [deepT_nil]) fun k n nm mk ks ih => by
  rw [deepT_node, w_node]; have := deepL_le 0 ih; omega

theorem kids_big {k n nm mk ks} (h : (Tr.node k n nm mk ks).w ≤ 1099511627776) : wL ks ≤ 1099511627776 ∧ ks.length ≤ 1099511627776 := by
  rw [w_node] at h
  have := wL_len ks
  omega
theorem wL_drop {ks : List Tr} (i : Nat) : wL (ks.drop i) ≤ wL ks := by
  have := wL_append (ks.take i) (ks.drop i)
  rw [List.take_append_drop] at this
  omega

theorem ev_size_loop {ks : List Tr} (hl : ks.length ≤ 1099511627776) (ih : ∀ x ∈ ks, Ev (fun K => arena_Size K x) (sizeT x : Int)) : ∀ (m i s : Nat), ks.length = i + m → s + sizeL (ks.drop i) ≤ 2 * 1099511627776 →
    Ev (fun K => arena_Size_l0 K ks (s : Int) (i : Int)) ((s + sizeL (ks.drop i) : Nat) : Int) := by
  intro m
  induction m with
  | zero =>
    intro i s hi hs
    refine Ev.step (fun k => by rw [arena_Size_l0]) ?_
    refine Ev.iteF (dec_f (by omega)) (Ev.pure' ?_)
    rw [List.drop_of_length_le (by omega), sizeL_nil]; rfl
  | succ m ihm =>
    intro i s hi hs
    have hlt : i < ks.length := by omega
    rw [drop_get hlt, sizeL_cons] at hs ⊢
    refine Ev.step (fun k => by rw [arena_Size_l0]) ?_
    refine Ev.iteT (dec_t (by omega)) (Ev.opt (getI_lt hlt) (Ev.bind (ih _ (List.getElem_mem hlt)) ?_))
    rw [wrap_nat (by omega), wrap_id (by omega) (by omega)]
    have := ihm (i + 1) (s + sizeT ks[i]) (by omega) (by omega)
    rw [Int.natCast_add] at this
    rw [show s + (sizeT ks[i] + sizeL (ks.drop (i + 1))) = s + sizeT ks[i] + sizeL (ks.drop (i + 1)) by omega]
    exact this

theorem ev_size : ∀ t : Tr, t.w ≤ 1099511627776 → Ev (fun K => arena_Size K t) (sizeT t : Int) := Tr.ind
  (fun _ => Ev.step (fun k => by rw [arena_Size]) (Ev.pure' (by simp [sizeT_nil])))
  fun k n nm mk ks ih h => by
    obtain ⟨h1, h2⟩ := kids_big h
    refine Ev.step (fun k => by rw [arena_Size]) ?_
    have := ev_size_loop h2 (fun x hx => ih x hx (by have := wL_mem hx; omega)) ks.length 0 1 (by omega) (by
      have := sizeL_le (l := ks) fun x _ => sizeT_le x
      simp only [List.drop_zero]; omega)
    rw [sizeT_node]
    simpa using this
end Go.Proofs.Ythkaeeadihplcaa
