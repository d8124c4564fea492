/- The abstract machine, part 16: structs, arguments; a law that answers true whatever it is handed, told as the rows ask it. -/
import Derived.Test.YthkaeeadihplcaaAm15
namespace Go.Am
open Go Go.ChangeShapes Go.WideShapes Go.RowKit

section
variable {P : Program}

theorem reads_slice1 {t e : TypeId} (ht : P.underlying t = some (.slice e)) (hc : P.cellsOf e = 1) {X : Type} {ok : X → Prop} {f : X → AV} (he : Reads P e ok (fun x => [f x])) :
    Reads P t (X := List X) (fun l => l.length ≤ maxLen ∧ ∀ x ∈ l, ok x) (fun l => [.slc (l.map f) l.length false]) := by
  have h := reads_slice (sz := 1) ht hc Nat.one_pos (fun _ => rfl) he
  intro H enc W fuel cs x hx
  obtain ⟨a, h1, h2, h3⟩ := h enc W fuel cs x hx
  have e : ∀ l : List X, (l.flatMap fun x => [f x]) = l.map f := fun l => by induction l with
    | nil => rfl
    | cons x l ih => rw [List.flatMap_cons, ih]; rfl
  refine ⟨a, h1, ?_, h3⟩
  simp only [e] at h2
  exact h2

def ReadsF (P : Program) (fs : List Field) (off n : Nat) {X : Type} (ok : X → Prop) (g : X → List AV) : Prop :=
  ∀ ⦃H : Type⦄ (enc : TypeId × Value → H) (W : World) (fuel : Nat) (cs : List Value) (xs : List (DataW H × List MemPlace)), cs.length = n →
    (fs.mapM fun f => DataW.trod enc P W 0 (fun _ => true) true fuel f.type ((cs.drop f.offset).take (P.cellsOf f.type))) = some xs → ∃ a, ok a ∧ VL (mu0 W) io0 (g a) (cs.drop off) ∧ Ones (cs.drop off)

theorem readsF_nil {n : Nat} : ReadsF P [] n n (X := Unit) (fun _ => True) (fun _ => []) := by
  intro H enc W fuel cs xs hl _
  refine ⟨(), trivial, ?_, ?_⟩
  · rw [List.drop_of_length_le (by omega)]; rfl
  · rw [List.drop_of_length_le (by omega)]; intro x hx; cases hx

theorem Ones.append {xs ys : List Value} (h : Ones xs) (k : Ones ys) : Ones (xs ++ ys) := fun v hv => (List.mem_append.1 hv).elim (h v) (k v)

theorem readsF_cons {f : Field} {fs : List Field} {off n k : Nat} {X Y : Type} {ok : X → Prop} {g : X → List AV} {ok2 : Y → Prop} {g2 : Y → List AV}
    (h : Reads P f.type ok g) (hk : P.cellsOf f.type = k) (ho : f.offset = off) (r : ReadsF P fs (off + k) n ok2 g2) : ReadsF P (f :: fs) off n (X := X × Y) (fun p => ok p.1 ∧ ok2 p.2) (fun p => g p.1 ++ g2 p.2) := by
  intro H enc W fuel cs xs hl hx
  rw [List.mapM_cons] at hx
  cases h1 : DataW.trod enc P W 0 (fun _ => true) true fuel f.type ((cs.drop f.offset).take (P.cellsOf f.type)) with
  | none => simp [h1] at hx
  | some y =>
    cases h2 : (fs.mapM fun f => DataW.trod enc P W 0 (fun _ => true) true fuel f.type ((cs.drop f.offset).take (P.cellsOf f.type))) with
    | none => simp [h1, h2] at hx
    | some ys =>
      obtain ⟨a, a1, a2, a3⟩ := h enc W fuel _ _ h1
      obtain ⟨b, b1, b2, b3⟩ := r enc W fuel cs ys hl h2
      rw [hk, ho] at a2 a3
      have e : cs.drop off = (cs.drop off).take k ++ cs.drop (off + k) := by
        rw [← List.drop_drop, List.take_append_drop]
      refine ⟨(a, b), ⟨a1, b1⟩, ?_, ?_⟩
      · rw [e]; exact a2.append b2
      · rw [e]; exact a3.append b3

theorem reads_struct {t n : TypeId} {fs : Array Field} (ht : P.underlying t = some (.struct fs)) (hc : P.cellsOf t = n) {X Y : Type} {ok : X → Prop} {g : X → List AV} {ok2 : Y → Prop} {g2 : Y → List AV} (h : ReadsF P fs.toList 0 n ok g)
    (iso : ∀ a, ok a → ∃ b, ok2 b ∧ g2 b = g a) : Reads P t ok2 g2 := by
  intro H enc W fuel cs x hx
  cases fuel with
  | zero => simp [DataW.trod] at hx
  | succ m =>
    unfold DataW.trod at hx
    rw [ht] at hx
    split at hx
    all_goals first | (exfalso; simp_all; done) | skip
    · rename_i cs _ _ fs' heq
      cases heq
      split at hx
      · rename_i hl
        rw [Option.map_eq_some_iff] at hx
        obtain ⟨xs, hx, _⟩ := hx
        obtain ⟨a, a1, a2, a3⟩ := h enc W m cs xs (hl.trans hc) hx
        obtain ⟨b, b1, b2⟩ := iso a a1
        exact ⟨b, b1, b2 ▸ (by simpa using a2), by simpa using a3⟩
      · cases hx

/-- What a struct type's fields are: their types, where they begin. -/
def fieldsB (P : Program) (t : TypeId) (l : List (Nat × Nat)) : Bool := match P.underlying t with
  | some (.struct fs) => decide (fs.toList.map (fun f => (f.type, f.offset)) = l)
  | _ => false

def ReadsG (P : Program) (l : List (Nat × Nat)) (off n : Nat) {X : Type} (ok : X → Prop) (g : X → List AV) : Prop :=
  ∀ fs : List Field, fs.map (fun f => (f.type, f.offset)) = l → ReadsF P fs off n ok g

theorem readsG_nil {n : Nat} : ReadsG P [] n n (X := Unit) (fun _ => True) (fun _ => []) := by
  intro fs h
  obtain rfl := List.map_eq_nil_iff.1 h
  exact readsF_nil

theorem readsG_cons {t : Nat} {l : List (Nat × Nat)} {off n k : Nat} {X Y : Type} {ok : X → Prop} {g : X → List AV} {ok2 : Y → Prop} {g2 : Y → List AV}
    (h : Reads P t ok g) (hk : P.cellsOf t = k) (r : ReadsG P l (off + k) n ok2 g2) : ReadsG P ((t, off) :: l) off n (X := X × Y) (fun p => ok p.1 ∧ ok2 p.2) (fun p => g p.1 ++ g2 p.2) := by
  intro fs hf
  cases fs with
  | nil => cases hf
  | cons f fs =>
    simp only [List.map_cons, List.cons.injEq, Prod.mk.injEq] at hf
    obtain ⟨⟨rfl, h2⟩, h3⟩ := hf
    exact readsF_cons h hk h2 (r fs h3)

theorem reads_structB {t n : TypeId} {l : List (Nat × Nat)} (hf : fieldsB P t l = true) (hc : P.cellsOf t = n) {X Y : Type} {ok : X → Prop} {g : X → List AV} {ok2 : Y → Prop} {g2 : Y → List AV} (h : ReadsG P l 0 n ok g)
    (iso : ∀ a, ok a → ∃ b, ok2 b ∧ g2 b = g a) : Reads P t ok2 g2 := by
  unfold fieldsB at hf
  split at hf
  · rename_i fs ht
    exact reads_struct ht hc (h fs.toList (of_decide_eq_true hf)) iso
  · cases hf

/-- An argument. -/
def ReadsArg (P : Program) (t : TypeId) {X : Type} (ok : X → Prop) (f : X → AV) : Prop :=
  ∀ ⦃H : Type⦄ (enc : TypeId × Value → H) (W : World) (base : Nat) (v : Value) (d : DataW H) (ps : List MemPlace), Value.okWide P W .any base t v → DataW.Trod enc P W 0 (fun _ => true) true t v d ps → ∃ a, ok a ∧ VR (mu0 W) io0 (f a) v

theorem arg_of_one {t : TypeId} {X : Type} {ok : X → Prop} {f : X → AV} (h : Reads P t ok (fun x => [f x])) (hone : ∀ (W : World) (base : Nat) v, Value.okWide P W .any base t v → v.cells = #[v]) : ReadsArg P t ok f := by
  intro H enc W base v d ps hv ⟨fuel, ht⟩
  rw [hone W base v hv] at ht
  obtain ⟨a, h1, ⟨u, us, e, h2, h3⟩, _⟩ := h enc W fuel _ _ ht
  cases e
  exact ⟨a, h1, h2⟩

theorem arg_int {t : TypeId} {k : IntKind} (ht : P.underlying t = some (.int k)) : ReadsArg P t (X := Int) (fun n => (Lit.int k n).wf = true) (fun n => .lit (.int k n)) :=
  arg_of_one (reads_int ht) fun _ _ _ hv => by obtain ⟨n, rfl⟩ := okWide_int ht hv; rfl
theorem arg_bool {t : TypeId} (ht : P.underlying t = some .bool) : ReadsArg P t (X := Bool) (fun _ => True) (fun b => .b b) :=
  arg_of_one (reads_bool ht) fun _ _ _ hv => by obtain ⟨n, rfl⟩ := okWide_bool ht hv; rfl
theorem arg_string {t : TypeId} (ht : P.underlying t = some .string) : ReadsArg P t (X := List UInt8) (fun s => s.length ≤ maxLen) (fun s => .s s) :=
  arg_of_one (reads_string ht) fun _ _ _ hv => by obtain ⟨n, rfl⟩ := okWide_string ht hv; rfl
theorem arg_slice {t e : TypeId} (ht : P.underlying t = some (.slice e)) {X : Type} {ok : X → Prop} {f : X → AV} (h : Reads P t ok (fun x => [f x])) : ReadsArg P t ok f :=
  arg_of_one h fun _ _ _ hv => by obtain ⟨a, l, c, rfl⟩ := okWide_slice ht hv; rfl
theorem arg_struct {t : TypeId} {fs : Array Field} (ht : P.underlying t = some (.struct fs)) {X : Type} {ok : X → Prop} {g : X → List AV} (h : Reads P t ok g) : ReadsArg P t ok (fun x => .agg (g x)) := by
  intro H enc W base v d ps hv ⟨fuel, hr⟩
  obtain ⟨cs, rfl, _⟩ := okWide_struct ht hv
  obtain ⟨a, h1, h2, h3⟩ := h enc W fuel _ _ hr
  exact ⟨a, h1, cs.toList, by simp, h3, h2⟩

theorem arg_structB {t : TypeId} {l : List (Nat × Nat)} (hf : fieldsB P t l = true) {X : Type} {ok : X → Prop} {g : X → List AV} (h : Reads P t ok g) : ReadsArg P t ok (fun x => .agg (g x)) := by
  unfold fieldsB at hf
  split at hf
  · rename_i fs ht
    exact arg_struct ht h
  · cases hf

def ReadsArgs (P : Program) (ts : List TypeId) {X : Type} (ok : X → Prop) (g : X → List AV) : Prop :=
  ∀ ⦃H : Type⦄ (enc : TypeId × Value → H) (W : World) (base : Nat) (vs : List Value) (ds : List (DataW H)) (ps : List MemPlace), (∀ (j : Nat) t v, ts[j]? = some t → vs[j]? = some v → Value.okWide P W .any base t v) →
    DataW.TrodAll enc P W 0 (fun _ => true) true ts vs ds ps → ∃ a, ok a ∧ VL (mu0 W) io0 (g a) vs

theorem args_nil : ReadsArgs P [] (X := Unit) (fun _ => True) (fun _ => []) := by
  intro H enc W base vs ds ps _ h
  cases vs with
  | nil => exact ⟨(), trivial, rfl⟩
  | cons v vs => cases ds <;> exact h.elim

theorem args_cons {t : TypeId} {ts : List TypeId} {X Y : Type} {ok : X → Prop} {f : X → AV} {ok2 : Y → Prop} {g : Y → List AV} (h : ReadsArg P t ok f) (k : ReadsArgs P ts ok2 g) :
    ReadsArgs P (t :: ts) (X := X × Y) (fun p => ok p.1 ∧ ok2 p.2) (fun p => f p.1 :: g p.2) := by
  intro H enc W base vs ds ps hv hr
  cases vs with
  | nil => cases ds <;> exact hr.elim
  | cons v vs =>
    cases ds with
    | nil => exact hr.elim
    | cons d ds =>
      obtain ⟨p, q, h1, h2, _⟩ := hr
      obtain ⟨a, a1, a2⟩ := h enc W base v d p (hv 0 t v rfl rfl) h1
      obtain ⟨b, b1, b2⟩ := k enc W base vs ds q (fun j t v h h' => hv (j + 1) t v (by simpa using h) (by simpa using h')) h2
      exact ⟨(a, b), ⟨a1, b1⟩, v, vs, rfl, a2, b2⟩

theorem trodAll_lengths {H : Type} {enc : TypeId × Value → H} {W : World} {b : Nat} {sp : Nat → Bool} {hd : Bool} : ∀ {ts : List TypeId} {vs : List Value} {ds : List (DataW H)} {ps : List MemPlace}, DataW.TrodAll enc P W b sp hd ts vs ds ps → ds.length = ts.length
  | [], [], [], _, _ => rfl
  | _ :: _, _ :: _, _ :: _, _, ⟨_, _, _, h, _⟩ => by simp [trodAll_lengths h]
  | [], _ :: _, _, _, h => by cases h
  | [], [], _ :: _, _, h => by cases h
  | _ :: _, [], _, _, h => by cases h
  | _ :: _, _ :: _, [], _, h => by cases h

theorem trodAll_stays {H : Type} {enc : TypeId × Value → H} {W W' : World} {sp : Nat → Bool} (K : Kids P (· < P.types.size)) (hz : ∀ t e, t < P.types.size → P.underlying t = some (.slice e) → 0 < P.cellsOf e) (hb : ∀ b, b < W.heap.size → W'.heap[b]? = W.heap[b]?) :
    ∀ {ts : List TypeId} {vs : List Value} {ds : List (DataW H)} {ps : List MemPlace}, (∀ t ∈ ts, t < P.types.size) → DataW.TrodAll enc P W 0 (fun _ => true) true ts vs ds ps → (∀ p ∈ ps, sp p.block = true) → DataW.TrodAll enc P W' 0 sp true ts vs ds ps
  | [], [], [], _, _, h, _ => h
  | t :: ts, v :: vs, d :: ds, _, hT, ⟨p, q, ⟨fuel, h1⟩, h2, e⟩, hs => by
    subst e
    refine ⟨p, q, ⟨fuel, ?_⟩, trodAll_stays K hz hb (fun t ht => hT t (List.mem_cons_of_mem _ ht)) h2 fun x hx => hs x (List.mem_append_right _ hx), rfl⟩
    refine DataW.trod_stays K (fun ht hu => hz _ _ ht hu) (fun h => by cases h) (hT t List.mem_cons_self) h1 (fun x hx => ?_) fun x hx => hs x (List.mem_append_left _ hx)
    have hlt := DataW.trod_lt _ _ _ _ h1 x hx
    cases x with
    | cell b off => show W'.cell? _ = W.cell? _; simp only [World.cell?, hb b hlt]
    | map b => exact hb b hlt
  | [], _ :: _, _, _, _, h, _ => by cases h
  | [], [], _ :: _, _, _, h, _ => by cases h
  | _ :: _, [], _, _, _, h, _ => by cases h
  | _ :: _, _ :: _, [], _, _, h, _ => by cases h

/-- What is left behind a call that answered true and left all that was there as it was. -/
theorem post_true {H : Type} {enc : TypeId × Value → H} {f : Func} {s : ChangeSpec} {apart fresh handsOn again : Bool} {W W' : World} {args : Array Value} {ds gs : List (DataW H)} {before : List MemPlace} {tb : TypeId}
    (K : Kids P (· < P.types.size)) (hz : ∀ t e, t < P.types.size → P.underlying t = some (.slice e) → 0 < P.cellsOf e) (hpar : ∀ t ∈ f.params.toList, t < P.types.size)
    (hrt : f.resultTypes = #[tb]) (htb : P.underlying tb = some .bool) (hvars : s.vars = []) (hW : DataW.Whole enc P f.params.toList s.vars apart W args.toList ds gs before)
    (hs : (s.fn H (ds ++ gs)).results = [.lit (.bool true)] ∧ (s.fn H (ds ++ gs)).args = ds ∧ (s.fn H (ds ++ gs)).vars = [])
    (hos : W'.os = W.os) (hout : W'.output = W.output) (hb : ∀ b, b < W.heap.size → W'.heap[b]? = W.heap[b]?) :
    s.post enc P f apart fresh handsOn again W args (.bool true) W' := by
  have hW' := hW
  obtain ⟨p, q, h1, h2, h3, h4, h5⟩ := hW
  rw [hvars] at h2
  obtain ⟨hgs, hq⟩ := trodVars_none h2
  subst hgs
  subst hq
  rw [List.append_nil] at h3
  subst h3
  have hold : ∀ x ∈ before, (fun b => decide (b < W.heap.size)) x.block = true := fun x hx => by simpa using hW'.lt x hx
  have hres : ∀ (b : Nat) (sp : Nat → Bool) (hd : Bool), DataW.TrodAll enc P W' b sp hd f.resultTypes.toList ((Value.bool true).resultList f.resultTypes.size) (s.fn H (ds ++ [])).results [] := by
    intro b sp hd
    rw [hs.1, hrt]
    exact trodAll_mk1 (shut_bool htb true)
  refine ⟨ds, [], before, [], before, [], hW', hres _ _ _, ?_, ?_, ?_, fun _ => ⟨ok_one hrt rfl (okWide_bool_mk htb true), [.lit (.bool true)] ++ ds, [], before, ⟨before, [], ?_, ?_, by simp, ?_, h5⟩, fun x hx _ => hx⟩⟩
  · rw [hs.2.1]; exact trodAll_stays K hz hb hpar h1 hold
  · rw [hvars, hs.2.2]; exact rfl
  · exact ⟨hos, hout, fun i hi => by rw [hb i hi]; exact (World.keptBut_refl W (fun p => p ∈ before ∧ (p ∈ ([] : List MemPlace) ∨ p ∈ before ∨ p ∈ ([] : List MemPlace)))).2.2 i hi⟩
  · have := trodAll_append (trodAll_stays K hz hb (sp := fun _ => true) hpar h1 fun _ _ => rfl) (hs.1 ▸ hres 0 (fun _ => true) true)
    simpa using this
  · rw [hvars]; exact rfl
  · intro b off hx
    have hlt := hW'.lt _ hx
    rw [show W'.frozen? ⟨b, off, none⟩ = W.frozen? ⟨b, off, none⟩ by simp only [World.frozen?, hb b hlt]]
    exact h4 b off hx

/-- A law: whatever it is handed, it answers true. -/
theorem law_handed {C : Checked} {os : Os} {H : Type} {enc : TypeId × Value → H} {fid : FuncId} {fn : Func} {s : ChangeSpec} {conds : List PathCond} {apart fresh handsOn again : Bool} {a : Assume} {tb : TypeId} {X : Type} {ok : X → Prop} {g : X → List AV}
    (own : ownKnob C.prog.godebug = none) (started : os.Started) (noInit : C.prog.inits.idxOf? fid = none) (hfn : C.prog.funcs[fid]? = some fn)
    (witness : ∃ (w : World) (tape : Tape) (i : Input), w.os = os ∧ (w.forCall tape i).Shaped C.prog ∧ i.vars = [] ∧ Input.okWide C.prog (w.forCall tape i) .any w.heap.size fid i ∧
      s.pre6 enc C.prog fn conds apart (w.forCall tape i).memory i.args ∧ a.holds C.prog (lone (Frame.enter C.prog fid i.args .normal) [] (w.forCall tape i)))
    (K : Kids C.prog (· < C.prog.types.size)) (hz : ∀ t e, t < C.prog.types.size → C.prog.underlying t = some (.slice e) → 0 < C.prog.cellsOf e) (hpar : ∀ t ∈ fn.params.toList, t < C.prog.types.size)
    (hrt : fn.resultTypes = #[tb]) (htb : C.prog.underlying tb = some .bool) (hvars : s.vars = [])
    (hs : ∀ ds : List (DataW H), ds.length = fn.params.toList.length → (s.fn H ds).results = [.lit (.bool true)] ∧ (s.fn H ds).args = ds ∧ (s.fn H ds).vars = [])
    (hr : ReadsArgs C.prog fn.params.toList ok g) (law : ∀ x, ok x → ACalls C.prog fid (g x) [] (fun av s => av = .b true ∧ s = [])) :
    ReturnsInHanded a C os fid .any (s.pre6 enc C.prog fn conds apart) (s.post enc C.prog fn apart fresh handsOn again) := by
  refine returnsInHanded_of_change (C := C) own started noInit hfn witness ?_
  intro W base args ds gs before hval hW _ _
  have hW' := hW
  obtain ⟨p, q, hA, hV, _⟩ := hW
  rw [hvars] at hV
  obtain ⟨hgs, _⟩ := trodVars_none hV
  obtain ⟨x, hx, hvl⟩ := hr enc W base args.toList ds p (fun j t v h1 h2 => hval j t v (by simpa using h1) (by simpa using h2)) hA
  have hlen := trodAll_lengths hA
  refine (law x hx W (mu0 W) io0 args.toList (Rel.start W) hvl).mono ?_
  rintro e W' ⟨v, av, s', m', i', rfl, ⟨rfl, rfl⟩, hv, _, hst⟩
  have hv' : v = .bool true := hv
  subst hv'
  refine ⟨_, rfl, post_true K hz hpar hrt htb hvars hW' (hs _ (by rw [hgs, List.append_nil]; exact hlen) |> fun h => ⟨h.1, by rw [h.2.1, hgs, List.append_nil], h.2.2⟩) hst.os hst.output fun b hb => hst.block b hb fun ⟨p, hp, _⟩ => by cases hp⟩
end
end Go.Am
