/- Plain facts of layer 4 (arena), part 5: how large an opened tree is; the program's way to open. -/
import Derived.Test.YthkaeeadihplcaaPA4
namespace Go.Proofs.Ythkaeeadihplcaa
open Go Go.Am

/-- what is not named yet, by weight -/
def rootsW (W : Nat → Nat) (seen : List Int) (i : Nat) : Nat := ((List.range i).map fun j : Nat => if (j : Int) ∈ seen then 0 else W j).sum
theorem rootsW_succ (W : Nat → Nat) (seen : List Int) (i : Nat) : rootsW W seen (i + 1) = rootsW W seen i + if (i : Int) ∈ seen then 0 else W i := by
  unfold rootsW
  rw [List.range_succ, List.map_append, List.sum_append]
  simp
theorem rootsW_mark {W : Nat → Nat} {seen : List Int} {k : Int} (h0 : 0 ≤ k) (hn : k ∉ seen) : ∀ i : Nat, rootsW W (seen ++ [k]) i + (if k < i then W k.toNat else 0) = rootsW W seen i := by
  intro i
  induction i with
  | zero => rw [if_neg (by omega)]; simp [rootsW]
  | succ i ih =>
    rw [rootsW_succ, rootsW_succ]
    by_cases e : k = (i : Int)
    · subst e
      rw [if_neg (by omega)] at ih
      rw [if_pos (by simp), if_pos (by omega), if_neg hn]
      simp only [Int.toNat_natCast]
      omega
    · have hm : ((i : Int) ∈ seen ++ [k]) ↔ (i : Int) ∈ seen := by
        rw [List.mem_append, List.mem_singleton]
        exact ⟨fun h => h.elim id fun h => absurd h.symm e, .inl⟩
      simp only [hm]
      by_cases hlt : k < (i : Int)
      · rw [if_pos hlt] at ih; rw [if_pos (show k < ((i + 1 : Nat) : Int) by omega)]; omega
      · rw [if_neg hlt] at ih; rw [if_neg (show ¬ k < ((i + 1 : Nat) : Int) by omega)]; omega
theorem rootsW_marks {W : Nat → Nat} {i : Nat} : ∀ (ks seen : List Int), (∀ k ∈ ks, 0 ≤ k ∧ k < i) → (seen ++ ks).Nodup → rootsW W (seen ++ ks) i + (ks.map fun k => W k.toNat).sum = rootsW W seen i
  | [], seen, _, _ => by simp
  | k :: ks, seen, h, hn => by
    have hk := h k List.mem_cons_self
    have e : seen ++ k :: ks = (seen ++ [k]) ++ ks := by simp
    rw [e] at hn ⊢
    have h1 := rootsW_marks (W := W) ks (seen ++ [k]) (fun x hx => h x (List.mem_cons_of_mem _ hx)) hn
    have hns : k ∉ seen := by
      have := (List.nodup_append.1 hn).1
      intro hm
      exact (List.nodup_append.1 this).2.2 k hm k (by simp) rfl
    have h2 := rootsW_mark (W := W) hk.1 hns i
    rw [if_pos hk.2] at h2
    rw [List.map_cons, List.sum_cons]
    omega

theorem wL_map {α : Type} (f : α → Tr) : ∀ l : List α, wL (l.map f) = (l.map fun x => (f x).w).sum
  | [] => by simp [wL_nil]
  | x :: l => by rw [List.map_cons, wL_cons, wL_map f l]; simp

theorem sum_zero : ∀ l : List Nat, (l.map fun _ => 0).sum = 0
  | [] => rfl
  | _ :: l => by rw [List.map_cons, List.sum_cons, sum_zero l]

section
variable {p : List S_Cell} (hv : Valid p p.length)
include hv
theorem kid_lt {i : Nat} (hi : i ≤ p.length) : ∀ k ∈ allK (p.take i), 0 ≤ k ∧ k + 1 < max i 1 := by
  induction i with
  | zero => intro k hk; simp [allK] at hk
  | succ i ih =>
    intro k hk
    rw [allK_take (by omega)] at hk
    rcases List.mem_append.1 hk with h | h
    · have := ih (by omega) k h; omega
    · have := hv i (by omega) (by omega) k h; omega

theorem roots_are (hn : (allK p).Nodup) : ∀ i : Nat, i ≤ p.length → rootsW (fun j => ((nodesL p).getD j .nil).w) (allK (p.take i)) i = i := by
  intro i
  induction i with
  | zero => intro _; simp [rootsW]
  | succ i ih =>
    intro hi
    have hl : i < p.length := by omega
    have hsub : (allK (p.take (i + 1))).Nodup := by
      have e : allK p = allK (p.take (i + 1)) ++ allK (p.drop (i + 1)) := by rw [← allK_append, List.take_append_drop]
      rw [e] at hn
      exact (List.nodup_append.1 hn).1
    rw [rootsW_succ]
    have hni : (i : Int) ∉ allK (p.take (i + 1)) := fun hm => by
      have := kid_lt hv hi _ hm; omega
    rw [if_neg hni, nodesL_at hl, w_node, wL_map]
    rw [allK_take hl] at hsub ⊢
    have hk := hv i hl hl
    have := rootsW_marks (W := fun j => ((nodesL p).getD j .nil).w) p[i].fKids (allK (p.take i)) hk hsub
    have hmap : (p[i].fKids.map fun k => ((nodesL (p.take i)).getD k.toNat .nil).w) = p[i].fKids.map fun k => ((nodesL p).getD k.toNat .nil).w := by
      apply List.map_congr_left
      intro k hm
      have := hk k hm
      rw [nodesL_getD (by omega) (by omega)]
    rw [hmap]
    have := ih (by omega)
    omega

theorem nodup_of_once (hc : ∀ j : Nat, j + 1 < p.length → (allK p).count (j : Int) = 1) : (allK p).Nodup := by
  rw [List.nodup_iff_count]
  intro a
  by_cases hm : a ∈ allK p
  · have := kid_lt hv (Nat.le_refl _) a (by rw [List.take_length]; exact hm)
    have h1 := hc a.toNat (by omega)
    rw [Int.toNat_of_nonneg this.1] at h1
    omega
  · rw [List.count_eq_zero.2 hm]; omega

theorem full_nodes : ∀ n i : Nat, i < n → i < p.length → fullT ((nodesL p).getD i .nil) = true := by
  intro n
  induction n with
  | zero => intro i h; omega
  | succ n ih =>
    intro i hi hl
    rw [nodesL_at hl, fullT_node, fullL_mem]
    intro x hx
    obtain ⟨k, hk, rfl⟩ := List.mem_map.1 hx
    have := hv i hl hl k hk
    rw [nodesL_getD (by omega) (by omega)]
    exact ih _ (by omega) (by omega)
end

theorem full_w : ∀ t : Tr, fullT t = true → t.w = sizeT t := Tr.ind (fun h => by rw [fullT_nil] at h; cases h) fun k n nm mk ks ih h => by
  rw [fullT_node, fullL_mem] at h
  rw [w_node, sizeT_node]
  have : ∀ l : List Tr, (∀ x ∈ l, x.w = sizeT x) → wL l = sizeL l := by
    intro l
    induction l with
    | nil => intro _; simp [wL_nil, sizeL_nil]
    | cons x l ihl => intro hh; rw [wL_cons, sizeL_cons, hh x List.mem_cons_self, ihl fun y hy => hh y (List.mem_cons_of_mem _ hy)]
  rw [this ks fun x hx => ih x hx (h x hx)]

/-- What is opened: nothing, with a number that is not 0; or a whole tree of as many nodes as there were cells, with 0. -/
theorem openT_cases (p : List S_Cell) : ((openT p).1 = .nil ∧ (openT p).2 ≠ 0) ∨ ((openT p).2 = 0 ∧ p.length ≠ 0 ∧ p.length ≤ 8192 ∧ fullT (openT p).1 = true ∧ sizeT (openT p).1 = p.length ∧ (openT p).1.w = p.length ∧
    (openT p).1 = (nodesL p).getD (p.length - 1) .nil ∧ Valid p p.length ∧ ∀ j : Nat, j + 1 < p.length → (allK p).count (j : Int) = 1) := by
  unfold openT
  by_cases h0 : p.length = 0
  · rw [if_pos h0]; exact .inl ⟨rfl, by decide⟩
  rw [if_neg h0]
  by_cases h1 : 8192 < p.length
  · rw [if_pos h1]; exact .inl ⟨rfl, by decide⟩
  rw [if_neg h1]
  split
  · rename_i hg
    refine .inr ⟨rfl, h0, by omega, ?_⟩
    have hn := nodup_of_once hg.1 hg.2
    have hf := full_nodes hg.1 p.length (p.length - 1) (by omega) (by omega)
    have hr := roots_are hg.1 hn p.length (Nat.le_refl _)
    rw [List.take_length] at hr
    obtain ⟨n, hnl⟩ : ∃ n, p.length = n + 1 := ⟨p.length - 1, by omega⟩
    rw [hnl, rootsW_succ] at hr
    have hz : rootsW (fun j => ((nodesL p).getD j .nil).w) (allK p) n = 0 := by
      unfold rootsW
      have : ((List.range n).map fun j : Nat => if (j : Int) ∈ allK p then 0 else ((nodesL p).getD j .nil).w) = (List.range n).map fun _ => 0 := by
        apply List.map_congr_left
        intro j hj
        rw [List.mem_range] at hj
        have := hg.2 j (by omega)
        rw [if_pos (List.count_pos_iff.1 (by omega))]
      rw [this]
      exact sum_zero _
    have hni : (n : Int) ∉ allK p := fun hm => by
      have := kid_lt hg.1 (Nat.le_refl _) _ (by rw [List.take_length]; exact hm); omega
    rw [hz, if_neg hni] at hr
    have hw : ((nodesL p).getD (p.length - 1) .nil).w = p.length := by rw [hnl, Nat.add_sub_cancel]; omega
    exact ⟨hf, by rw [← full_w _ hf]; exact hw, hw, rfl, hg.1, hg.2⟩
  · exact .inl ⟨rfl, by decide⟩

theorem openT_w (p : List S_Cell) : (openT p).1.w ≤ 8192 := by
  rcases openT_cases p with ⟨h, _⟩ | h
  · rw [h]; decide
  · omega
end Go.Proofs.Ythkaeeadihplcaa
