/- The abstract machine, part 15: what a handed argument is, read out of memory; what is behind a call, told as a statement of the rows asks it. -/
import Derived.Test.YthkaeeadihplcaaAm14
import Derived.ChangeSame
import Derived.JoinedOf
import Derived.JoinedAt
import Derived.RowKit
import Derived.RowKit2
import Derived.ReadAgain
import Derived.ChangeAlike
import Derived.ChangeStays
namespace Go.Am
open Go Go.ChangeShapes Go.WideShapes Go.RowKit

def mu0 (W : World) : Mu := fun b o => match W.cell? ⟨b, o, none⟩ with | some v => if v.oneCell' then some v else none | none => none
def io0 : Io := fun _ => none

theorem mu0_some {W : World} {b o : Nat} {v : Value} (h : W.cell? ⟨b, o, none⟩ = some v) (h1 : v.oneCell' = true) : mu0 W b o = some v := by
  simp [mu0, h, h1]

theorem Rel.start (W : World) : Rel W (mu0 W) io0 [] := by
  refine ⟨fun b o v h => ?_, fun p hp => (by cases hp), List.Pairwise.nil, 0, fun _ _ => rfl⟩
  unfold mu0 at h
  split at h
  · rename_i u hu
    split at h
    · cases h; exact ⟨hu, by assumption⟩
    · cases h
  · cases h

/-- Whatever reads as a value of the type is one that g tells. -/
def Reads (P : Program) (t : TypeId) {X : Type} (ok : X → Prop) (g : X → List AV) : Prop :=
  ∀ ⦃H : Type⦄ (enc : TypeId × Value → H) (W : World) (fuel : Nat) (cs : List Value) (x : DataW H × List MemPlace),
    DataW.trod enc P W 0 (fun _ => true) true fuel t cs = some x → ∃ a, ok a ∧ VL (mu0 W) io0 (g a) cs ∧ Ones cs

section
variable {P : Program}

theorem ones_one {v : Value} (h : v.oneCell' = true) : Ones [v] := fun x hx => by rw [List.mem_singleton.1 hx]; exact h

theorem reads_bool {t : TypeId} (ht : P.underlying t = some .bool) : Reads P t (X := Bool) (fun _ => True) (fun b => [.b b]) := by
  intro H enc W fuel cs x h
  cases fuel with
  | zero => simp [DataW.trod] at h
  | succ n =>
    unfold DataW.trod at h
    rw [ht] at h
    split at h
    all_goals first | (exfalso; simp_all; done) | skip
    · rename_i b he
      exact ⟨b, trivial, ⟨_, _, rfl, rfl, rfl⟩, ones_one rfl⟩

theorem reads_int {t : TypeId} {k : IntKind} (ht : P.underlying t = some (.int k)) : Reads P t (X := Int) (fun n => (Lit.int k n).wf = true) (fun n => [.lit (.int k n)]) := by
  intro H enc W fuel cs x h
  cases fuel with
  | zero => simp [DataW.trod] at h
  | succ m =>
    unfold DataW.trod at h
    rw [ht] at h
    split at h
    all_goals first | (exfalso; simp_all; done) | skip
    · rename_i k1 k2 n he
      cases he
      split at h
      · rename_i hc
        obtain ⟨rfl, hw⟩ := hc
        exact ⟨n, hw, ⟨_, _, rfl, rfl, rfl⟩, ones_one rfl⟩
      · cases h

theorem reads_string {t : TypeId} (ht : P.underlying t = some .string) : Reads P t (X := List UInt8) (fun s => s.length ≤ maxLen) (fun s => [.s s]) := by
  intro H enc W fuel cs x h
  cases fuel with
  | zero => simp [DataW.trod] at h
  | succ m =>
    unfold DataW.trod at h
    rw [ht] at h
    split at h
    all_goals first | (exfalso; simp_all; done) | skip
    · rename_i s he
      split at h
      · rename_i hc
        refine ⟨s.data.toList, (by show s.data.toList.length ≤ maxLen; rw [Array.length_toList]; exact hc), ⟨_, _, rfl, ?_, rfl⟩, ones_one rfl⟩
        show Value.string s = Value.string ⟨s.data.toList.toArray⟩
        simp
      · cases h

theorem exists_list {X : Type} (p : Nat → X → Prop) : ∀ n, (∀ j, j < n → ∃ x, p j x) → ∃ l : List X, l.length = n ∧ ∀ j x, l[j]? = some x → p j x
  | 0, _ => ⟨[], rfl, fun j x h => by simp at h⟩
  | n + 1, h => by
    obtain ⟨l, h1, h2⟩ := exists_list p n fun j hj => h j (by omega)
    obtain ⟨x, hx⟩ := h n (by omega)
    refine ⟨l ++ [x], by simp [h1], fun j y hj => ?_⟩
    by_cases e : j < l.length
    · rw [List.getElem?_append_left e] at hj; exact h2 j y hj
    · rw [List.getElem?_append_right (by omega)] at hj
      have : j - l.length = 0 := by
        rcases Nat.eq_zero_or_pos (j - l.length) with h | h
        · exact h
        · rw [List.getElem?_eq_none (by simp; omega)] at hj; cases hj
      rw [this] at hj; simp at hj; subst hj
      have : j = n := by omega
      rw [this]; exact hx

theorem VC.flat {X : Type} {g : X → List AV} {sz : Nat} (hg : ∀ x, (g x).length = sz) {m : Mu} {i : Io} {b : Nat} : ∀ (l : List X) (o : Nat), (∀ j x, l[j]? = some x → VC m i (g x) b (o + j * sz)) → VC m i (l.flatMap g) b o
  | [], _, _ => trivial
  | x :: l, o, h => by
    rw [List.flatMap_cons]
    refine VC.append (by simpa using h 0 x rfl) (VC.flat hg l _ fun j y hj => ?_)
    have := h (j + 1) y (by simpa using hj)
    rw [hg, show o + sz + j * sz = o + (j + 1) * sz by rw [Nat.add_mul]; omega]
    exact this

theorem mapM_range {β : Type} {f : Nat → Option β} : ∀ {n : Nat} {l : List β}, (List.range n).mapM f = some l → ∀ j, j < n → ∃ y, f j = some y :=
  fun h j hj => mapM_each h j (List.mem_range.2 hj)

theorem mapM_range_get {β : Type} {f : Nat → Option β} : ∀ {n : Nat} {r : List β}, (List.range n).mapM f = some r → r.length = n ∧ ∀ k v, r[k]? = some v → f k = some v := by
  intro n
  induction n with
  | zero => intro r h; simp at h; subst h; exact ⟨rfl, fun k v hv => by simp at hv⟩
  | succ n ih =>
    intro r h
    rw [List.range_succ, List.mapM_append] at h
    cases h3 : (List.range n).mapM f with
    | none => simp [h3] at h
    | some r0 =>
      simp only [h3, List.mapM_cons, List.mapM_nil] at h
      cases h4 : f n with
      | none => simp [h4] at h
      | some y =>
        simp [h4] at h
        subst h
        obtain ⟨hr0, hr1⟩ := ih h3
        refine ⟨by simp [hr0], fun k v hv => ?_⟩
        by_cases e : k < r0.length
        · rw [List.getElem?_append_left e] at hv; exact hr1 k v hv
        · rw [List.getElem?_append_right (by omega)] at hv
          have hz : k - r0.length = 0 := by
            rcases Nat.eq_zero_or_pos (k - r0.length) with h | h
            · exact h
            · rw [List.getElem?_eq_none (by simp; omega)] at hv; cases hv
          rw [hz] at hv; simp at hv; subst hv
          have : k = n := by omega
          rw [this]; exact h4

theorem reads_slice {t e sz : TypeId} (ht : P.underlying t = some (.slice e)) (hc : P.cellsOf e = sz) (hsz : 0 < sz) {X : Type} {ok : X → Prop} {g : X → List AV} (hg : ∀ x, (g x).length = sz) (he : Reads P e ok g) :
    Reads P t (X := List X) (fun l => l.length ≤ maxLen ∧ ∀ x ∈ l, ok x) (fun l => [.slc (l.flatMap g) l.length false]) := by
  intro H enc W fuel cs x h
  cases fuel with
  | zero => simp [DataW.trod] at h
  | succ m =>
    unfold DataW.trod at h
    rw [ht] at h
    split at h
    all_goals first | (exfalso; simp_all; done) | skip
    · exact ⟨[], ⟨by simp, fun x hx => by cases hx⟩, ⟨_, _, rfl, .inl ⟨rfl, rfl, none, rfl⟩, rfl⟩, ones_one rfl⟩
    · rename_i e' a len cap heq
      cases heq
      simp only at h
      split at h
      · rename_i hb
        obtain ⟨_, hlc, hcm⟩ := hb
        rw [Option.bind_eq_some_iff] at h
        obtain ⟨elems, h1, h2⟩ := h
        rw [Option.map_eq_some_iff] at h2
        obtain ⟨rest, h2, _⟩ := h2
        rw [if_pos trivial] at h2
        rw [hc] at h1 h2
        by_cases hz : cap = 0
        · subst hz
          have : len = 0 := by omega
          subst this
          exact ⟨[], ⟨by simp, fun x hx => by cases hx⟩, ⟨_, _, rfl, .inl ⟨rfl, rfl, some a, rfl⟩, rfl⟩, ones_one rfl⟩
        · have hspot : a.spot = none := by
            have hel : ∃ y, (W.cells? 0 (a.add (0 * sz)) sz).bind (DataW.trod enc P W 0 (fun _ => true) true m e) = some y := by
              by_cases hl : len = 0
              · subst hl
                obtain ⟨y, hy⟩ := mapM_range h2 0 (by omega)
                exact ⟨y, by simpa using hy⟩
              · exact mapM_range h1 0 (by omega)
            obtain ⟨y, hy⟩ := hel
            rw [Option.bind_eq_some_iff] at hy
            obtain ⟨c0, hc0, _⟩ := hy
            unfold World.cells? at hc0
            rw [if_pos (Nat.zero_le _)] at hc0
            obtain ⟨v, hv⟩ := mapM_range hc0 0 hsz
            simp only [Nat.zero_mul, Addr.add, if_true] at hv
            unfold World.cell? at hv
            split at hv
            · split at hv
              · cases hv
              · rename_i hn
                cases hs : a.spot with
                | none => rfl
                | some s => rw [hs] at hn; simp at hn
            · cases hv
          have hadd : ∀ k, a.add k = ⟨a.block, a.off + k, none⟩ := by
            intro k
            obtain ⟨b, o, s⟩ := a
            simp only at hspot
            subst hspot
            unfold Addr.add
            split
            · rename_i h0; subst h0; rfl
            · rfl
          obtain ⟨l, hl1, hl2⟩ := exists_list (fun j x => ok x ∧ VC (mu0 W) io0 (g x) a.block (a.off + j * sz)) len fun j hj => by
            obtain ⟨y, hy⟩ := mapM_range h1 j hj
            rw [Option.bind_eq_some_iff] at hy
            obtain ⟨c0, hc0, hy⟩ := hy
            obtain ⟨x, hok, hvl, hone⟩ := he enc W m c0 y hy
            refine ⟨x, hok, VC.of_list hvl fun k v hk => ?_⟩
            unfold World.cells? at hc0
            rw [if_pos (Nat.zero_le _)] at hc0
            have hlen := hvl.eq_len
            rw [hg] at hlen
            have hk' : k < sz := by rw [hlen]; exact (List.getElem?_eq_some_iff.1 hk).1
            have hcell : W.cell? ((a.add (j * sz)).add k) = some v := by
              exact (mapM_range_get hc0).2 k v hk
            rw [hadd, add_lit] at hcell
            exact mu0_some hcell (hone v (List.mem_of_getElem? hk))
          refine ⟨l, ⟨by rw [hl1]; omega, fun x hx => ?_⟩, ⟨_, _, rfl, .inr ⟨a.block, a.off, cap, ?_, by omega, hcm, fun h => (by cases h), ?_⟩, rfl⟩, ones_one rfl⟩
          · obtain ⟨j, hj⟩ := List.getElem?_of_mem hx
            exact (hl2 j x hj).1
          · obtain ⟨b, o, s⟩ := a
            simp only at hspot
            subst hspot
            rw [hl1]
          · exact VC.flat hg l a.off fun j x hj => (hl2 j x hj).2
      · cases h
end
end Go.Am
