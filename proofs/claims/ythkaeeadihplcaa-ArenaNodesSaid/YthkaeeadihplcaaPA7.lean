/- Plain facts of layer 4 (arena), part 7: what is packed is opened as it was. -/
import Derived.Test.YthkaeeadihplcaaPA6
namespace Go.Proofs.Ythkaeeadihplcaa
open Go Go.Am

def upTo (f n : Nat) : List Int := (List.range' f n).map fun j : Nat => (j : Int)
theorem upTo_append (f a b : Nat) : upTo f (a + b) = upTo f a ++ upTo (f + a) b := by
  unfold upTo
  rw [← List.map_append, List.range'_append_1]
theorem upTo_last (f n : Nat) : upTo f (n + 1) = upTo f n ++ [((f + n : Nat) : Int)] := by rw [upTo_append]; rfl
theorem upTo_mem {f n : Nat} {k : Int} : k ∈ upTo f n ↔ (f : Int) ≤ k ∧ k < ((f + n : Nat) : Int) := by
  unfold upTo
  rw [List.mem_map]
  constructor
  · rintro ⟨j, hj, rfl⟩
    rw [List.mem_range'_1] at hj
    omega
  · intro h
    exact ⟨k.toNat, by rw [List.mem_range'_1]; omega, by omega⟩
theorem upTo_nodup (f n : Nat) : (upTo f n).Nodup := by
  unfold upTo
  exact List.Pairwise.map _ (fun a b (h : a ≠ b) => by omega) List.nodup_range'

theorem size_pos : ∀ t : Tr, fullT t = true → 1 ≤ sizeT t := fun t h => by
  cases t with
  | nil => rw [fullT_nil] at h; cases h
  | node => rw [sizeT_node]; omega

/-- What is claimed of the cells of a tree from f on. -/
structure Laid (t : Tr) (f : Nat) : Prop where
  fold : ∀ acc : List Tr, acc.length = f → ∃ L, (cellsT t f).foldl stepN acc = acc ++ L ++ [t] ∧ L.length + 1 = sizeT t
  kids : ∀ (i : Nat) (h : i < (cellsT t f).length), ∀ k ∈ (cellsT t f)[i].fKids, (f : Int) ≤ k ∧ k < ((f + i : Nat) : Int)
  all : (allK (cellsT t f)).Perm (upTo f (sizeT t - 1))

structure LaidL (l done : List Tr) (f : Nat) (kids : List Int) (out : List S_Cell) : Prop where
  fold : ∀ acc : List Tr, acc.length = f → ∃ N, out.foldl stepN acc = acc ++ N ∧ N.length = out.length ∧ kids.map (fun k => (acc ++ N).getD k.toNat .nil) = done
  ahead : ∀ (i : Nat) (h : i < out.length), ∀ k ∈ out[i].fKids, (f : Int) ≤ k ∧ k < ((f + i : Nat) : Int)
  all : (allK out ++ kids).Perm (upTo f out.length)

theorem laid_loop {f : Nat} : ∀ (l done : List Tr) (kids : List Int) (out : List S_Cell), (∀ x ∈ l, ∀ f, Laid x f) → (∀ x ∈ l, fullT x = true) → LaidL l done f kids out →
    LaidL [] (done ++ l) f (cellsL l f kids out).1 (cellsL l f kids out).2
  | [], done, kids, out, _, _, h => by rw [cellsL_nil, List.append_nil]; exact ⟨h.fold, h.ahead, h.all⟩
  | x :: l, done, kids, out, hx, hf, h => by
    have lx := hx x List.mem_cons_self (f + out.length)
    have hs := size_pos x (hf x List.mem_cons_self)
    have hlen := cellsT_len x (f + out.length)
    rw [cellsL_cons, show done ++ x :: l = (done ++ [x]) ++ l by simp]
    refine laid_loop l (done ++ [x]) _ _ (fun y hy => hx y (List.mem_cons_of_mem _ hy)) (fun y hy => hf y (List.mem_cons_of_mem _ hy)) ⟨fun acc ha => ?_, fun i hi k hk => ?_, ?_⟩
    · obtain ⟨N, n1, n2, n3⟩ := h.fold acc ha
      obtain ⟨L, l1, l2⟩ := lx.fold (acc ++ N) (by simp; omega)
      refine ⟨N ++ L ++ [x], by rw [List.foldl_append, n1, l1]; simp, by simp; omega, ?_⟩
      rw [List.map_append]
      congr 1
      · rw [← n3]
        apply List.map_congr_left
        intro k hk
        have hk' : k ∈ upTo f out.length := h.all.mem_iff.1 (List.mem_append_right _ hk)
        rw [upTo_mem] at hk'
        rw [List.getD_eq_getElem?_getD, List.getD_eq_getElem?_getD, show acc ++ (N ++ L ++ [x]) = (acc ++ N) ++ (L ++ [x]) by simp, List.getElem?_append_left (by simp; omega)]
      · rw [List.map_cons, List.map_nil]
        congr 1
        rw [List.getD_eq_getElem?_getD, show acc ++ (N ++ L ++ [x]) = (acc ++ N ++ L) ++ [x] by simp, List.getElem?_append_right (by simp; omega)]
        rw [show ((((f + (out ++ cellsT x (f + out.length)).length : Nat) : Int) - 1).toNat - (acc ++ N ++ L).length) = 0 by simp; omega]
        rfl
    · by_cases hlt : i < out.length
      · rw [List.getElem_append_left hlt] at hk
        exact h.ahead i hlt k hk
      · rw [List.getElem_append_right (by omega)] at hk
        have := lx.kids _ (by rw [List.length_append] at hi; omega) k hk
        omega
    · have e1 : (allK (out ++ cellsT x (f + out.length)) ++ (kids ++ [((f + (out ++ cellsT x (f + out.length)).length : Nat) : Int) - 1])).Perm ((allK out ++ kids) ++ (allK (cellsT x (f + out.length)) ++ [((f + (out ++ cellsT x (f + out.length)).length : Nat) : Int) - 1])) := by
        rw [allK_append, List.append_assoc, List.append_assoc]
        refine List.Perm.append_left _ ?_
        rw [← List.append_assoc, ← List.append_assoc]
        exact List.Perm.append_right _ List.perm_append_comm
      refine e1.trans ?_
      have e2 : upTo f (out ++ cellsT x (f + out.length)).length = upTo f out.length ++ (upTo (f + out.length) (sizeT x - 1) ++ [((f + (out ++ cellsT x (f + out.length)).length : Nat) : Int) - 1]) := by
        rw [List.length_append, hlen, show sizeT x = (sizeT x - 1) + 1 by omega, upTo_append, upTo_last]
        congr 3
        omega
      rw [e2]
      exact h.all.append (lx.all.append_right _)

theorem laid : ∀ t : Tr, fullT t = true → ∀ f, Laid t f := Tr.ind (fun h => by rw [fullT_nil] at h; cases h) fun k n nm mk ks ih h f => by
  rw [fullT_node, fullL_mem] at h
  have key := laid_loop (f := f) ks [] [] [] (fun x hx f' => ih x hx (h x hx) f') h ⟨fun acc ha => ⟨[], by simp, rfl, rfl⟩, fun i hi => by simp at hi, by simp [allK, upTo]⟩
  rw [List.nil_append] at key
  have hlen := cellsL_len (l := ks) f [] [] fun x _ f => cellsT_len x f
  refine ⟨fun acc ha => ?_, fun i hi k' hk => ?_, ?_⟩
  · obtain ⟨N, n1, n2, n3⟩ := key.fold acc ha
    refine ⟨N, ?_, by rw [sizeT_node, n2, hlen]; simp; omega⟩
    rw [cellsT_node, List.foldl_append, n1]
    show stepN (acc ++ N) _ = _
    unfold stepN
    simp only [n3]
  · simp only [cellsT_node] at hi hk
    by_cases hlt : i < (cellsL ks f [] []).2.length
    · rw [List.getElem_append_left hlt] at hk
      exact key.ahead i hlt k' hk
    · rw [List.getElem_append_right (by omega)] at hk
      have hi0 : i = (cellsL ks f [] []).2.length := by simp at hi; omega
      simp only [List.getElem_singleton] at hk
      have := key.all.mem_iff.1 (List.mem_append_right _ hk)
      rw [upTo_mem] at this
      omega
  · rw [cellsT_node, allK_append, allK_one, sizeT_node, show 1 + sizeL ks - 1 = (cellsL ks f [] []).2.length by rw [hlen]; simp]
    exact key.all

theorem open_pack {t : Tr} (hf : fullT t = true) (hs : sizeT t ≤ 8192) : openT (cellsT t 0) = (t, 0) := by
  have h := laid t hf 0
  have hp := size_pos t hf
  have hlen := cellsT_len t 0
  rw [openT_good (by omega) (by omega) ⟨fun i hi _ k hk => ?_, fun j hj => ?_⟩]
  · obtain ⟨L, l1, l2⟩ := h.fold [] rfl
    rw [nodesL, l1, hlen]
    simp only [List.nil_append]
    rw [List.getD_eq_getElem?_getD, List.getElem?_append_right (by omega), show sizeT t - 1 - L.length = 0 by omega]
    rfl
  · have := h.kids i hi k hk; omega
  · rw [h.all.count_eq]
    have hm : (j : Int) ∈ upTo 0 (sizeT t - 1) := by rw [upTo_mem]; omega
    have h1 := List.count_pos_iff.2 hm
    have h2 := List.nodup_iff_count.1 (upTo_nodup 0 (sizeT t - 1)) (j : Int)
    omega
end Go.Proofs.Ythkaeeadihplcaa
