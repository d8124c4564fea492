/- The abstract machine, part 3: facts on types in tables; memory that is made; operations that leave the store alone. -/
import Derived.Test.YthkaeeadihplcaaAm2
namespace Go.Am
open Go

/-! ### tables of types -/
inductive Kd where
  | bool | int (k : IntKind) | string | pointer (e : Nat) | slice (e : Nat) | map (k e : Nat) | func | struct | array | other

def kdOf : Option TypeDesc → Kd
  | some .bool => .bool
  | some (.int k) => .int k
  | some .string => .string
  | some (.pointer e) => .pointer e
  | some (.slice e) => .slice e
  | some (.map k e) => .map k e
  | some (.func _ _ _) => .func
  | some (.struct _) => .struct
  | some (.array _ _) => .array
  | _ => .other

def fldsOf (P : Program) : Option TypeDesc → Option (List (Nat × Nat × Nat))
  | some (.struct fs) => some (fs.toList.map fun f => (f.type, f.offset, P.cellsOf f.type))
  | _ => none

/-- What a seat's types are: kinds of the underlying types, sizes in cells, bytes, zero values, the fields of structs (type, offset, size). -/
structure TT where
  kd : List (Nat × Kd)
  sz : List (Nat × Nat)
  by' : List (Nat × Nat)
  zero : List (Nat × List Value)
  fld : List (Nat × List (Nat × Nat × Nat))

def lk {α : Type} : List (Nat × α) → Nat → Option α
  | [], _ => none
  | (k, v) :: l, x => if Nat.beq x k then some v else lk l x

theorem lk_mem {α : Type} : ∀ {l : List (Nat × α)} {x : Nat} {v : α}, lk l x = some v → (x, v) ∈ l
  | [], _, _, h => by simp [lk] at h
  | (k, u) :: l, x, v, h => by
    unfold lk at h
    by_cases e : x = k
    · subst e; rw [nbeq_self, if_pos rfl] at h; cases h; exact List.mem_cons_self
    · rw [nbeq_ne e] at h; simp at h; exact List.mem_cons_of_mem _ (lk_mem h)

structure TTok (P : Program) (T : TT) : Prop where
  kd : T.kd.map (fun p => kdOf (P.underlying p.1)) = T.kd.map (·.2)
  sz : T.sz.map (fun p => (P.info? p.1).map (·.size)) = T.sz.map (fun p => some p.2)
  by' : T.by'.map (fun p => (P.info? p.1).map (·.bytes)) = T.by'.map (fun p => some p.2)
  zero : T.zero.map (fun p => ((P.info? p.1).bind (·.zero)).map (·.cells.toList)) = T.zero.map (fun p => some p.2)
  fld : T.fld.map (fun p => fldsOf P (P.underlying p.1)) = T.fld.map (fun p => some p.2)

theorem map_eq_mem {α β : Type} {f g : α → β} : ∀ {l : List α}, l.map f = l.map g → ∀ x ∈ l, f x = g x
  | [], _, x, h => by cases h
  | y :: l, e, x, h => by
    simp only [List.map_cons, List.cons.injEq] at e
    rcases List.mem_cons.1 h with rfl | h
    · exact e.1
    · exact map_eq_mem e.2 x h

section
variable {P : Program} {T : TT}
theorem TTok.kd' (h : TTok P T) {t : Nat} {k : Kd} (e : lk T.kd t = some k) : kdOf (P.underlying t) = k := map_eq_mem h.kd _ (lk_mem e)
theorem TTok.sz' (h : TTok P T) {t k : Nat} (e : lk T.sz t = some k) : (P.info? t).map (·.size) = some k := map_eq_mem h.sz _ (lk_mem e)
theorem TTok.by'' (h : TTok P T) {t k : Nat} (e : lk T.by' t = some k) : (P.info? t).map (·.bytes) = some k := map_eq_mem h.by' _ (lk_mem e)
theorem TTok.zero' (h : TTok P T) {t : Nat} {k : List Value} (e : lk T.zero t = some k) : ((P.info? t).bind (·.zero)).map (·.cells.toList) = some k := map_eq_mem h.zero _ (lk_mem e)
theorem TTok.fld' (h : TTok P T) {t : Nat} {k} (e : lk T.fld t = some k) : fldsOf P (P.underlying t) = some k := map_eq_mem h.fld _ (lk_mem e)

def Kd.agg : Kd → Option Bool
  | .struct | .array => some true
  | .other => none
  | _ => some false

/-- How many cells, and whether they make an aggregate: of a type. -/
def TT.lay (T : TT) (t : Nat) : Option (Bool × Nat) :=
  match lk T.kd t with
  | none => none
  | some k => match lk T.sz t with
    | none => none
    | some n => match k.agg with
      | none => none
      | some true => some (true, n)
      | some false => if Nat.beq n 1 then some (false, 1) else none

theorem TT.lay_inv {t : Nat} {b : Bool} {n : Nat} (e : T.lay t = some (b, n)) : ∃ k, lk T.kd t = some k ∧ lk T.sz t = some n ∧ k.agg = some b ∧ (b = false → n = 1) := by
  unfold TT.lay at e
  split at e
  · cases e
  · rename_i k hk
    split at e
    · cases e
    · rename_i m hm
      split at e
      · cases e
      · rename_i ha
        cases e
        exact ⟨k, hk, hm, ha, fun h => by cases h⟩
      · rename_i ha
        split at e
        · rename_i hb
          cases e
          have : m = 1 := Nat.eq_of_beq_eq_true hb
          subst this
          exact ⟨k, hk, hm, ha, fun _ => rfl⟩
        · cases e

theorem TTok.under (h : TTok P T) {t : Nat} {k : Kd} (e : lk T.kd t = some k) (hk : k ≠ .other) : ∃ d, P.underlying t = some d ∧ kdOf (some d) = k := by
  have := h.kd' e
  cases hu : P.underlying t with
  | none => rw [hu] at this; exact absurd this.symm hk
  | some d => exact ⟨d, rfl, by rw [hu] at this; exact this⟩

theorem TTok.size (h : TTok P T) {t n : Nat} (e : lk T.sz t = some n) : ∃ i, P.info? t = some i ∧ i.size = n := by
  have := h.sz' e
  cases hi : P.info? t with
  | none => rw [hi] at this; simp at this
  | some i => rw [hi] at this; simp at this; exact ⟨i, rfl, this⟩

theorem run_isAgg' {t : Nat} {b : Bool} {n : Nat} (h : TTok P T) (e : T.lay t = some (b, n)) (w : World) : (isAgg t).run P w = .ok b w ∧ (sizeOf t).run P w = .ok n w := by
  obtain ⟨k, h1, h2, h3, _⟩ := TT.lay_inv e
  obtain ⟨i, hi, hn⟩ := h.size h2
  obtain ⟨d, hd, hk⟩ := h.under h1 (by intro hh; subst hh; cases h3)
  refine ⟨?_, by simp [sizeOf, typeInfo, hi, hn]⟩
  unfold isAgg
  rw [Sem.run_bind, run_underlying hd]
  simp only [Result.andThen_ok]
  rw [← hk] at h3
  clear hd hk h1 h2 hi hn e i
  cases d <;> simp [kdOf, Kd.agg] at h3 <;> subst h3 <;> rfl

/-! ### reading immutable cells -/
theorem VC.get {m : Mu} {i : Io} : ∀ {cs : List AV} {b o : Nat}, VC m i cs b o → ∀ (k : Nat) (c : AV), cs[k]? = some c → ∃ v, m b (o + k) = some v ∧ VR m i c v
  | [], _, _, _, k, c, h => by simp at h
  | c0 :: cs, b, o, ⟨⟨v, h1, h2⟩, h3⟩, k, c, h => by
    cases k with
    | zero => simp at h; subst h; exact ⟨v, h1, h2⟩
    | succ k => simp at h; obtain ⟨u, h4, h5⟩ := VC.get h3 k c h; exact ⟨u, by rw [show o + (k + 1) = o + 1 + k from by omega]; exact h4, h5⟩

theorem VC.list {m : Mu} {i : Io} : ∀ {cs : List AV} {b o : Nat}, VC m i cs b o → ∃ vs : List Value, VL m i cs vs ∧ ∀ (k : Nat) (v : Value), vs[k]? = some v → m b (o + k) = some v
  | [], _, _, _ => ⟨[], rfl, by simp⟩
  | c :: cs, b, o, ⟨⟨v, h1, h2⟩, h3⟩ => by
    obtain ⟨vs, h4, h5⟩ := VC.list h3
    refine ⟨v :: vs, ⟨v, vs, rfl, h2, h4⟩, ?_⟩
    intro k u hu
    cases k with
    | zero => simp at hu; subst hu; exact h1
    | succ k => simp at hu; rw [show o + (k + 1) = o + 1 + k from by omega]; exact h5 k u hu

theorem VC.drop {m : Mu} {i : Io} : ∀ (k : Nat) {cs : List AV} {b o : Nat}, VC m i cs b o → VC m i (cs.drop k) b (o + k)
  | 0, cs, b, o, h => h
  | k + 1, [], b, o, _ => trivial
  | k + 1, c :: cs, b, o, h => by
    have := VC.drop k h.2
    simp only [List.drop_succ_cons]
    rw [show o + (k + 1) = o + 1 + k from by omega]; exact this

theorem VC.take {m : Mu} {i : Io} : ∀ (k : Nat) {cs : List AV} {b o : Nat}, VC m i cs b o → VC m i (cs.take k) b o
  | 0, cs, b, o, h => trivial
  | k + 1, [], b, o, _ => trivial
  | k + 1, c :: cs, b, o, h => ⟨h.1, VC.take k h.2⟩

theorem VC.append {m : Mu} {i : Io} : ∀ {cs ds : List AV} {b o : Nat}, VC m i cs b o → VC m i ds b (o + cs.length) → VC m i (cs ++ ds) b o
  | [], ds, b, o, _, h => h
  | c :: cs, ds, b, o, h, k => ⟨h.1, VC.append h.2 (by rw [show o + 1 + cs.length = o + (c :: cs).length from by simp; omega]; exact k)⟩

theorem VC.of_list {m : Mu} {i : Io} : ∀ {cs : List AV} {vs : List Value} {b o : Nat}, VL m i cs vs → (∀ (k : Nat) (v : Value), vs[k]? = some v → m b (o + k) = some v) → VC m i cs b o
  | [], _, _, _, _, _ => trivial
  | c :: cs, _, b, o, ⟨v, vs, h1, h2, h3⟩, h => by
    subst h1
    exact ⟨⟨v, by simpa using h 0 v rfl, h2⟩, VC.of_list h3 fun k u hu => by rw [show o + 1 + k = o + (k + 1) from by omega]; exact h (k + 1) u (by simpa using hu)⟩

theorem VL.drop {m : Mu} {i : Io} : ∀ (k : Nat) {cs : List AV} {vs : List Value}, VL m i cs vs → VL m i (cs.drop k) (vs.drop k)
  | 0, _, _, h => h
  | k + 1, [], _, h => by rw [h]; rfl
  | k + 1, c :: cs, _, ⟨v, vs, h1, h2, h3⟩ => by subst h1; exact VL.drop k h3

theorem VL.take {m : Mu} {i : Io} : ∀ (k : Nat) {cs : List AV} {vs : List Value}, VL m i cs vs → VL m i (cs.take k) (vs.take k)
  | 0, _, _, h => rfl
  | k + 1, [], _, h => by rw [h]; rfl
  | k + 1, c :: cs, _, ⟨v, vs, h1, h2, h3⟩ => by subst h1; exact ⟨v, vs.take k, rfl, h2, VL.take k h3⟩

theorem VL.append {m : Mu} {i : Io} : ∀ {cs ds : List AV} {vs us : List Value}, VL m i cs vs → VL m i ds us → VL m i (cs ++ ds) (vs ++ us)
  | [], _, _, _, h, k => by rw [h]; exact k
  | c :: cs, ds, _, us, ⟨v, vs, h1, h2, h3⟩, k => by subst h1; exact ⟨v, vs ++ us, rfl, h2, VL.append h3 k⟩

theorem VL.set {m : Mu} {i : Io} {c : AV} {v : Value} (hv : VR m i c v) : ∀ {cs : List AV} {vs : List Value} (k : Nat), VL m i cs vs → VL m i (cs.set k c) (vs.set k v)
  | [], _, _, h => by rw [h]; rfl
  | c0 :: cs, _, 0, ⟨v0, vs, h1, h2, h3⟩ => by subst h1; exact ⟨v, vs, rfl, hv, h3⟩
  | c0 :: cs, _, k + 1, ⟨v0, vs, h1, h2, h3⟩ => by subst h1; exact ⟨v0, vs.set k v, rfl, h2, VL.set hv k h3⟩

theorem add_lit (b o k : Nat) : (⟨b, o, none⟩ : Addr).add k = ⟨b, o + k, none⟩ := by unfold Addr.add; split <;> simp_all

/-- A load out of cells that are known. -/
theorem run_loadAt_list {w : World} {t : Nat} {b o : Nat} {g : Bool} {n : Nat} (h : TTok P T) (e : T.lay t = some (g, n)) (vs : List Value) (hn : vs.length = n)
    (hv : ∀ (k : Nat) (v : Value), vs[k]? = some v → w.cell? ⟨b, o + k, none⟩ = some v) :
    (Instr.loadAt t (.pointer (some ⟨b, o, none⟩))).run P w = .ok (if g then .agg vs.toArray else vs.headD undef) w := by
  obtain ⟨h1, h2⟩ := run_isAgg' h e w
  unfold Instr.loadAt Instr.sureAddr loadVar
  simp only [Sem.run_bind, Sem.run_pure, Result.andThen_ok, h1]
  cases g with
  | true =>
    simp only [if_true, Sem.run_bind, h2, Result.andThen_ok, Sem.run_pure]
    have := run_loadCells_list (P := P) w ⟨b, o, none⟩ vs (fun j v hj => by rw [add_lit]; exact hv j v hj)
    rw [hn] at this
    rw [this]
    rfl
  | false =>
    have hn1 : n = 1 := (TT.lay_inv e).choose_spec.2.2.2 rfl
    subst hn1
    match vs, hn with
    | [v], _ =>
      have := hv 0 v rfl
      simp only [Bool.false_eq_true, if_false]
      rw [run_load]
      simp only [Nat.add_zero] at this
      rw [this]
      rfl

end
end Go.Am
