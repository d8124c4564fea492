/- The abstract machine, part 6: the program of part 5 is right. -/
import Derived.Test.YthkaeeadihplcaaAm5
namespace Go.Am
open Go
section
variable {P : Program} {T : TT} {t : Tau} {s : Store}

theorem fldsOf_inv {ty : Nat} {fs : List (Nat × Nat × Nat)} (h : TTok P T) (e : lk T.fld ty = some fs) :
    ∃ l : Array Field, P.underlying ty = some (.struct l) ∧ fs = l.toList.map fun f => (f.type, f.offset, P.cellsOf f.type) := by
  have := h.fld' e
  unfold fldsOf at this
  split at this
  · rename_i l hl
    cases this
    exact ⟨l, hl, rfl⟩
  · cases this

theorem cellsOf_run {ty n : Nat} (h : P.cellsOf ty = n + 1) (w : World) : (sizeOf ty).run P w = .ok (n + 1) w := by
  unfold Program.cellsOf at h
  cases hi : P.info? ty with
  | none => rw [hi] at h; simp at h
  | some i => rw [hi] at h; simp at h; simp [sizeOf, typeInfo, hi, h]

theorem run_fieldAt {ty f fty off n : Nat} {fs} (h : TTok P T) (e : lk T.fld ty = some fs) (hf : fs[f]? = some (fty, off, n + 1)) (b o : Nat) (w : World) :
    (Instr.fieldAt ty (.pointer (some ⟨b, o, none⟩)) f).run P w = .ok (.pointer (some ⟨b, o + off, none⟩)) w := by
  obtain ⟨l, h1, h2⟩ := fldsOf_inv h e
  subst h2
  rw [List.getElem?_map, Option.map_eq_some_iff] at hf
  obtain ⟨g, hg, hg2⟩ := hf
  have hg' : l[f]? = some g := by simpa using hg
  simp only [Prod.mk.injEq] at hg2
  obtain ⟨rfl, rfl, hsz⟩ := hg2
  simp only [Instr.fieldAt, Sem.run_bind, run_underlying h1, Result.andThen_ok, hg', Instr.sureAddr, Sem.run_pure, fieldPlace, cellsOf_run hsz, Sem.run_ite]
  rw [if_neg (by simp)]
  simp [add_lit]

theorem VL.agg_get {m : Mu} {i : Io} {cs : List AV} {vs : List Value} (h : VL m i cs vs) {k : Nat} {c : AV} (hc : cs[k]? = some c) : ∃ v, vs[k]? = some v ∧ VR m i c v := h.get k c hc

theorem run_partOf {w : World} {ty off n : Nat} {g : Bool} (h : TTok P T) (e : T.lay ty = some (g, n)) (vs : List Value) (hv : g = false → ∃ v, vs[off]? = some v) :
    ∃ v, (part ty vs.toArray off).run P w = .ok v w ∧ (if g then v = .agg ((vs.drop off).take n).toArray else vs[off]? = some v) := by
  obtain ⟨h1, h2⟩ := run_isAgg' h e w
  unfold part
  rw [Sem.run_bind, h1]
  simp only [Result.andThen_ok]
  cases g with
  | true =>
    refine ⟨_, by simp only [if_true, Sem.run_bind, h2, Result.andThen_ok, Sem.run_pure]; rfl, ?_⟩
    simp only [if_true]
    congr 1
    apply Array.toList_inj.1
    simp only [Array.toList_extract]
    rw [List.extract_eq_take_drop]
    congr 1
    omega
  | false =>
    obtain ⟨v, hv'⟩ := hv rfl
    refine ⟨v, ?_, by simpa using hv'⟩
    simp [hv']

theorem VR.agg_of {m : Mu} {i : Io} {cs : List AV} {vs : List Value} (h1 : Ones vs) (h : VL m i cs vs) : VR m i (.agg cs) (.agg vs.toArray) := ⟨vs, rfl, h1, h⟩

theorem head_get {α : Type} {l : List α} {x : α} (h : l.head? = some x) : l[0]? = some x := by cases l <;> simp_all

theorem PL.of_parts {m : Mu} {i : Io} {a : Act} : ∀ (l : List (Nat × Operand)), (∀ k, Operand.tmp k ∈ l.map (·.2) → VR m i (t k) (a.tmps.getD k undef)) →
    PL m i (l.map fun p => (p.1, ev t p.2)) (l.map fun p => (p.1, a.eval p.2))
  | [], _ => rfl
  | p :: l, h => ⟨_, _, rfl, VR.ev p.2 (fun k hk => h k (by rw [← hk]; simp)), PL.of_parts l fun k hk => h k (by simp at hk ⊢; exact .inr hk)⟩

theorem run_zero {ty : Nat} {zs : List Value} (h : TTok P T) (e : lk T.zero ty = some zs) (w : World) : ∃ z, (zeroValue ty).run P w = .ok z w ∧ z.cells.toList = zs := by
  have := h.zero' e
  cases hi : P.info? ty with
  | none => rw [hi] at this; simp at this
  | some i =>
    rw [hi] at this
    cases hz : i.zero with
    | none => simp [hz] at this
    | some z => simp [hz] at this; exact ⟨z, by simp [zeroValue, typeInfo, hi, hz], this⟩

theorem run_fields_map {w : World} : ∀ (l : List Field), (∀ f ∈ l, ∃ n, (sizeOf f.type).run P w = .ok n w ∧ P.cellsOf f.type = n) →
    (l.mapM fun f => do pure (f.offset, ← sizeOf f.type) : Sem (List (Nat × Nat))).run P w = .ok (l.map fun f => (f.offset, P.cellsOf f.type)) w
  | [], _ => rfl
  | f :: l, h => by
    obtain ⟨n, h1, h2⟩ := h f List.mem_cons_self
    have := run_fields_map l fun g hg => h g (List.mem_cons_of_mem _ hg)
    simp only [List.mapM_cons, Sem.run_bind, h1, Result.andThen_ok, Sem.run_pure, this, List.map_cons, h2]

theorem cellsOf_some {ty : Nat} (h : 0 < P.cellsOf ty) (w : World) : ∃ n, (sizeOf ty).run P w = .ok n w ∧ P.cellsOf ty = n := by
  cases hn : P.cellsOf ty with
  | zero => omega
  | succ n => exact ⟨n + 1, cellsOf_run hn w, rfl⟩

theorem run_build {ty : Nat} {zs : List Value} {fs : List (Nat × Nat × Nat)} (h : TTok P T) (ez : lk T.zero ty = some zs) (ef : lk T.fld ty = some fs) (hall : (fs.all fun f => Nat.blt 0 f.2.2) = true) (hone : Ones zs)
    {m : Mu} {i : Io} {ps : List (Nat × AV)} {qs : Array (Nat × Value)} (hp : PL m i ps qs.toList) {cs : List AV}
    (hf : pfill (fun j => (fs[j]?).map fun f => (f.2.1, f.2.2)) (zs.map AV.ofConst) ps = some cs) (w : World) :
    ∃ v, (Instr.build ty qs).run P w = .ok v w ∧ VR m i (.agg cs) v := by
  obtain ⟨z, h1, h2⟩ := run_zero h ez w
  obtain ⟨l, h3, h4⟩ := fldsOf_inv h ef
  subst h4
  obtain ⟨vs', h5, h6, h7⟩ := pfill_fill ps qs.toList _ cs zs hp (VL.consts zs) hone hf
  refine ⟨_, ?_, vs', rfl, h7, h6⟩
  unfold Instr.build
  simp only [Sem.run_bind, h1, Result.andThen_ok, run_underlying h3]
  have hm := run_fields_map (P := P) (w := w) l.toList fun f hfm => cellsOf_some (by
    have := List.all_eq_true.1 hall (f.type, f.offset, P.cellsOf f.type) (List.mem_map.2 ⟨f, hfm, rfl⟩)
    simpa using this) w
  rw [← Array.toList_mapM] at hm
  rw [Sem.run_map] at hm
  generalize hr : (Array.mapM (fun (f : Field) => (do pure (f.offset, ← sizeOf f.type) : Sem (Nat × Nat))) l).run P w = r at hm
  cases r with
  | halt x y => cases hm
  | ok pl w1 =>
    simp only [Result.andThen_ok, Result.ok.injEq] at hm
    obtain ⟨hm1, rfl⟩ := hm
    have hpl : (fun (j : Nat) => pl[j]?) = fun (j : Nat) => ((l.toList.map fun f => (f.type, f.offset, P.cellsOf f.type))[j]?).map fun f => (f.2.1, f.2.2) := by
      funext j
      rw [← Array.getElem?_toList, hm1]
      simp
      rfl
    have hz : z.cells = zs.toArray := by apply Array.toList_inj.1; simpa using h2
    simp only [Result.andThen_ok, hpl, hz, h5]
    rfl


theorem VL.tile {m : Mu} {i : Io} {zs : List Value} (n sz : Nat) (hz : zs.length = sz) :
    VL m i ((List.range (n * sz)).map fun j => (zs.map AV.ofConst).getD (j % sz) .any) (((Array.range (n * sz)).map fun j => zs.toArray[j % zs.toArray.size]!).toList) := by
  have gen : ∀ (l : List Nat), (∀ j ∈ l, j % sz < sz) → VL m i (l.map fun j => (zs.map AV.ofConst).getD (j % sz) .any) (l.map fun j => zs.toArray[j % zs.toArray.size]!) := by
    intro l
    induction l with
    | nil => intro _; rfl
    | cons j l ih =>
      intro hl
      refine ⟨_, _, rfl, ?_, ih fun k hk => hl k (List.mem_cons_of_mem _ hk)⟩
      have hj := hl j List.mem_cons_self
      have hlt : j % sz < zs.length := by omega
      simp only [List.size_toArray, hz, List.getD_eq_getElem?_getD, List.getElem?_map, List.getElem?_eq_getElem hlt, Option.map_some, Option.getD_some, List.getElem!_toArray, getElem!_pos zs (j % sz) hlt]
      exact VR.ofConst _
  have := gen (List.range (n * sz)) (fun j hj => Nat.mod_lt _ (by
    rcases Nat.eq_zero_or_pos sz with h0 | h0
    · subst h0; simp at hj
    · exact h0))
  simpa using this

theorem Ones.tile {zs : List Value} {n sz : Nat} (h : Ones zs) (hz : zs.length = sz) : Ones (((Array.range (n * sz)).map fun j => zs.toArray[j % zs.toArray.size]!).toList) := by
  intro v hv
  simp only [Array.toList_map, Array.toList_range, List.mem_map, List.mem_range] at hv
  obtain ⟨j, hj, rfl⟩ := hv
  have hlt : j % zs.length < zs.length := Nat.mod_lt _ (by
    rcases Nat.eq_zero_or_pos sz with h0 | h0
    · subst h0; simp at hj
    · omega)
  simp only [List.size_toArray, List.getElem!_toArray, getElem!_pos zs (j % zs.length) hlt]
  exact h _ (List.getElem_mem hlt)

theorem run_buildSlice {ty e n sz : Nat} {zs : List Value} (h : TTok P T) (ek : lk T.kd ty = some (.slice e)) (ez : lk T.zero e = some zs) (es : lk T.sz e = some sz)
    (hle : n * sz ≤ 16777216) (hz : zs.length = sz) (hone : Ones zs) {m : Mu} {i : Io} {ps : List (Nat × AV)} {qs : Array (Nat × Value)} (hp : PL m i ps qs.toList) {cs : List AV}
    (hf : pfill (fun j => some (j * sz, sz)) ((List.range (n * sz)).map fun j => (zs.map AV.ofConst).getD (j % sz) .any) ps = some cs) (w : World) :
    ∃ vs : List Value, (Instr.buildSlice ty n qs).run P w = .ok (.slice (some ⟨w.heap.size, 0, none⟩) n n) (w.alloc (.cells vs.toArray e (0, 0))) ∧ VL m i cs vs ∧ Ones vs := by
  obtain ⟨d, hd, hdk⟩ := h.under ek (by simp)
  have hd' : P.underlying ty = some (.slice e) := by
    cases d <;> simp only [kdOf] at hdk <;> first | (cases hdk; done) | (cases hdk; exact hd)
  obtain ⟨i0, hi, hsz⟩ := h.size es
  obtain ⟨z, h1, h2⟩ := run_zero h ez w
  have hzc : z.cells = zs.toArray := by apply Array.toList_inj.1; simpa using h2
  obtain ⟨vs', h5, h6, h7⟩ := pfill_fill ps qs.toList _ cs _ hp (VL.tile n sz hz) (Ones.tile hone hz) hf
  refine ⟨vs', ?_, h6, h7⟩
  unfold Instr.buildSlice
  have hs1 : (sizeOf e).run P w = .ok sz w := by simp [sizeOf, typeInfo, hi, hsz]
  simp only [Sem.run_bind, run_underlying hd', Result.andThen_ok, hs1]
  rw [if_neg (by omega)]
  by_cases h0 : n * sz = 0
  · rw [if_pos h0]
    have harr : ((Array.range (n * sz)).map fun j => (#[] : Array Value)[j % (#[] : Array Value).size]!) = ((Array.range (n * sz)).map fun j => zs.toArray[j % zs.toArray.size]!).toList.toArray := by rw [h0, Array.toArray_toList]; apply Array.toList_inj.1; simp
    simp only [Sem.run_bind, Sem.run_pure, Result.andThen_ok]
    rw [harr, h5]
    simp [newRow]
  · rw [if_neg h0]
    have harr : ((Array.range (n * sz)).map fun j => zs.toArray[j % zs.toArray.size]!) = ((Array.range (n * sz)).map fun j => zs.toArray[j % zs.toArray.size]!).toList.toArray := (Array.toArray_toList).symm
    simp only [Sem.run_bind, Sem.run_pure, Result.andThen_ok, h1, hzc]
    rw [harr, h5]
    simp [newRow]

theorem pop_sound (h : TTok P T) {o : Oper} {av : AV} (hp : pop T t o.op = some av) : AOp P o t s (fun x y => x = av ∧ y = s) := by
  obtain ⟨dst, op, type, pos, after, guard⟩ := o
  have opd : ∀ {x : Operand} {a : Act} {m : Mu} {i : Io} {l : Array Operand}, (∀ k, Operand.tmp k ∈ l → VR m i (t k) (a.tmps.getD k undef)) → x ∈ l → VR m i (ev t x) (a.eval x) :=
    fun {x a m i l} h hx => VR.ev x fun k hk => h k (hk ▸ hx)
  cases op <;> simp only [pop] at hp <;> first | (cases hp; done) | skip
  case move x => cases hp; exact aop_val fun a w m i hr ho => ⟨_, by simp [execOp], opd ho (by simp [Op.operands])⟩
  case assign x => cases hp; exact aop_val fun a w m i hr ho => ⟨_, by simp [execOp], opd ho (by simp [Op.operands])⟩
  case pick c x y =>
    split at hp <;> cases hp
    rename_i b hc
    refine aop_val fun a w m i hr ho => ?_
    have h1 := opd (x := c) ho (by simp [Op.operands])
    rw [hc] at h1
    have h1' : a.eval c = .bool b := h1
    refine ⟨if b then a.eval x else a.eval y, by simp [execOp, h1', asBool], ?_⟩
    cases b
    · exact opd ho (by simp [Op.operands])
    · exact opd ho (by simp [Op.operands])
  case nilCheck x =>
    refine aop_val fun a w m i hr ho => ?_
    have h1 := opd (x := x) ho (by simp [Op.operands])
    split at hp <;> cases hp
    · rename_i hc; rw [hc] at h1
      obtain ⟨b, o, h2, h3⟩ := h1
      exact ⟨_, by simp [execOp, h2], b, o, rfl, h3⟩
    · rename_i k n nm mk ks hc; rw [hc] at h1
      have h4 := Weak.tree_node k n nm mk ks _ _ _ h1
      obtain ⟨b, o, h2, h3⟩ := h4
      exact ⟨_, by simp [execOp, h2], b, o, rfl, h3⟩
    · rename_i hc; rw [hc] at h1
      obtain ⟨b, o, h2, h3⟩ := h1
      exact ⟨_, by simp [execOp, h3], b, o, h2, rfl⟩
    · rename_i hc; rw [hc] at h1
      obtain ⟨fs, cs, h2, h3⟩ := h1
      exact ⟨_, by simp [execOp, h2], fs, cs, rfl, h3⟩
  case fieldAddr ty x f =>
    split at hp
    · cases hp
    · rename_i fs hf
      split at hp
      · rename_i fty off sz hg
        refine aop_val fun a w m i hr ho => ?_
        have h1 := opd (x := x) ho (by simp [Op.operands])
        split at hp <;> cases hp
        · rename_i hc; rw [hc] at h1
          obtain ⟨b, o, h2, h3⟩ := h1
          exact ⟨_, by simp [execOp, h2, run_fieldAt h hf hg], b, o + off, rfl, h3.drop off⟩
        · rename_i hc; rw [hc] at h1
          obtain ⟨b, c, h2, h3⟩ := h1
          exact ⟨_, by simp [execOp, h3, run_fieldAt h hf hg], b, c, h2, rfl⟩
      · cases hp
  case field ty x f =>
    split at hp
    · cases hp
    · rename_i fs hf
      split at hp
      · rename_i fty off sz hg
        obtain ⟨l, hl1, hl2⟩ := fldsOf_inv h hf
        subst hl2
        rw [List.getElem?_map, Option.map_eq_some_iff] at hg
        obtain ⟨g, hg1, hg2⟩ := hg
        have hg' : l[f]? = some g := by simpa using hg1
        simp only [Prod.mk.injEq] at hg2
        obtain ⟨rfl, rfl, hsz⟩ := hg2
        split at hp
        · rename_i cs hc
          refine aop_val fun a w m i hr ho => ?_
          have h1 := opd (x := x) ho (by simp [Op.operands])
          rw [hc] at h1
          obtain ⟨vs, h2, h1o, h3⟩ := h1
          split at hp
          · rename_i n hlay
            cases hp
            obtain ⟨v, h4, h5⟩ := run_partOf (w := w) (off := g.offset) h hlay vs (fun h => by cases h)
            refine ⟨v, by simp [execOp, Instr.field, run_underlying hl1, hg', h2, asAgg, h4], ?_⟩
            simp only [if_true] at h5
            rw [h5]
            exact VR.agg_of (fun x hx => h1o x (List.mem_of_mem_drop (List.mem_of_mem_take hx))) ((h3.drop _).take _)
          · rename_i n hlay
            obtain ⟨u, h6, h7⟩ := h3.get _ _ hp
            obtain ⟨v, h4, h5⟩ := run_partOf (w := w) (off := g.offset) h hlay vs (fun _ => ⟨u, h6⟩)
            refine ⟨v, by simp [execOp, Instr.field, run_underlying hl1, hg', h2, asAgg, h4], ?_⟩
            simp only [Bool.false_eq_true, if_false] at h5
            rw [h6] at h5
            cases h5
            exact h7
          · cases hp
        · cases hp
      · cases hp
  case load ty x =>
    split at hp
    · rename_i cs hc
      refine aop_val fun a w m i hr ho => ?_
      have h1 := opd (x := x) ho (by simp [Op.operands])
      rw [hc] at h1
      obtain ⟨b, o, h2, h3⟩ := h1
      split at hp
      · rename_i n hlay
        split at hp
        · rename_i hle
          cases hp
          obtain ⟨vs, h4, h5⟩ := (h3.take n).list
          have hlen : vs.length = n := by
            have := h4.eq_len
            have hle' : n ≤ cs.length := Nat.le_of_ble_eq_true hle
            rw [List.length_take] at this; omega
          exact ⟨_, by simp [execOp, h2, run_loadAt_list h hlay vs hlen (fun k v hk => (hr.mu _ _ _ (h5 k v hk)).1)], vs, rfl, fun x hx => (let ⟨k, hk⟩ := List.getElem?_of_mem hx; (hr.mu _ _ _ (h5 k x hk)).2), h4⟩
        · cases hp
      · rename_i n hlay
        obtain ⟨v, h4, h5⟩ := h3.get 0 _ (head_get hp)
        have hn := (TT.lay_inv hlay).choose_spec.2.2.2 rfl
        subst hn
        refine ⟨v, ?_, h5⟩
        have := run_loadAt_list (w := w) (b := b) (o := o) h hlay [v] rfl (fun k u hk => by
          cases k with
          | zero => simp at hk; subst hk; exact (hr.mu _ _ _ h4).1
          | succ k => simp at hk)
        simp [execOp, h2, this]
      · cases hp
    · cases hp
  case binOp op ty x y yt =>
    refine aop_val fun a w m i hr ho => ?_
    obtain ⟨v, h1, h2⟩ := run_pbin h hp (opd (x := x) ho (by simp [Op.operands])) (opd (x := y) ho (by simp [Op.operands])) x y w
    refine ⟨v, ?_, h2⟩
    simp only [execOp]
    rw [Sem.run_bind] at h1 ⊢
    rw [Sem.run_bind, h1]
    rfl
  case unOp op ty x =>
    cases op <;> simp only at hp <;> first | (cases hp; done) | skip
    · refine aop_val fun a w m i hr ho => ?_
      have h1 := opd (x := x) ho (by simp [Op.operands])
      split at hp <;> cases hp
      rename_i hc; rw [hc] at h1
      have h1' : a.eval x = _ := h1
      exact ⟨_, by simp [execOp, h1', Op.unary, Op.intArith], rfl⟩
    · refine aop_val fun a w m i hr ho => ?_
      have h1 := opd (x := x) ho (by simp [Op.operands])
      split at hp <;> cases hp
      rename_i hc; rw [hc] at h1
      have h1' : a.eval x = _ := h1
      exact ⟨_, by simp [execOp, h1', Op.unary], rfl⟩
  case convert src dst x =>
    refine aop_val fun a w m i hr ho => ?_
    have h1 := opd (x := x) ho (by simp [Op.operands])
    split at hp <;> cases hp
    · rename_i hs hd hc; rw [hc] at h1
      have h1' : a.eval x = _ := h1
      obtain ⟨d1, e1, e2⟩ := h.under hs (by simp)
      obtain ⟨d2, e3, e4⟩ := h.under hd (by simp)
      cases d2 <;> simp only [kdOf] at e4 <;> first | (cases e4; done) | skip
      cases e4
      cases d1 <;> simp only [kdOf] at e2 <;> first | (cases e2; done) | skip
      exact ⟨_, by simp [execOp, convert, run_underlying e1, run_underlying e3, h1', Conv.intToInt], rfl⟩
    · rename_i hs hd hc; rw [hc] at h1
      have h1' : a.eval x = _ := h1
      obtain ⟨d1, e1, e2⟩ := h.under hs (by simp)
      obtain ⟨d2, e3, e4⟩ := h.under hd (by simp)
      cases d2 <;> simp only [kdOf] at e4 <;> first | (cases e4; done) | skip
      cases d1 <;> simp only [kdOf] at e2 <;> first | (cases e2; done) | skip
      exact ⟨_, by simp [execOp, convert, run_underlying e1, run_underlying e3, h1'], rfl⟩
  case makeFunc f fi ca =>
    cases hp
    refine aop_val fun a w m i hr ho => ?_
    refine ⟨.func f (fi.map a.eval) (ca.map a.eval), by simp [execOp, Instr.makeFunc], fi.toList.map a.eval, ca.toList.map a.eval, by rw [← Array.toList_map, ← Array.toList_map], ?_, ?_⟩
    · exact VL.map_ev _ fun k hk => ho k (by simp [Op.operands]; exact .inl (by simpa using hk))
    · exact VL.map_ev _ fun k hk => ho k (by simp [Op.operands]; exact .inr (by simpa using hk))
  case extract x j =>
    refine aop_val fun a w m i hr ho => ?_
    have h1 := opd (x := x) ho (by simp [Op.operands])
    split at hp
    · rename_i l hc; rw [hc] at h1
      obtain ⟨vs, h2, h3⟩ := h1
      obtain ⟨u, h4, h5⟩ := h3.get _ _ hp
      exact ⟨u, by simp [execOp, Instr.extract, h2, h4], h5⟩
    · cases hp
  case build ty ps =>
    split at hp
    · rename_i zs fs hz hf
      split at hp
      · cases hp
      · rename_i hall
        simp only [Bool.not_eq_false, Bool.and_eq_true] at hall
        rw [Option.map_eq_some_iff] at hp
        obtain ⟨cs, hp, rfl⟩ := hp
        refine aop_val fun a w m i hr ho => ?_
        have hpl : PL m i (pparts t ps) (ps.map fun (p : Nat × Operand) => (p.1, a.eval p.2)).toList := by
          rw [Array.toList_map]
          exact PL.of_parts _ fun k hk => ho k (by simpa [Op.operands] using hk)
        obtain ⟨v, h1, h2⟩ := run_build h hz hf hall.1 (fun v hv => List.all_eq_true.1 hall.2 v hv) hpl hp w
        exact ⟨v, by simp only [execOp, Sem.run_bind, h1]; rfl, h2⟩
    · cases hp
  case box e x =>
    refine aop_gen fun a w m i hr ho => ?_
    have h1 := opd (x := x) ho (by simp [Op.operands])
    have key : ∀ c : AV, ev t x = c → (c.scalar = true ∨ ∃ cs, c = .agg cs) → av = .ptr c.cells →
        ∃ v w' m' i', (execOp a.eval ⟨dst, .box e x, type, pos, after, guard⟩).run P w = .ok (.value v) w' ∧ VR m' i' av v ∧ Rel w' m' i' s ∧ Step w m i s w' m' i' s := by
      intro c hc hs hav
      rw [hc] at h1
      obtain ⟨hl, hl1⟩ := h1.cells hs
      obtain ⟨r1, r2⟩ := hr.make e (a.eval x).cells.toList w.drawn hl1
      refine ⟨.pointer (some ⟨w.heap.size, 0, none⟩), _, _, i, ?_, ?_, r1, r2⟩
      · simp [execOp, Instr.box, newVar, newRow]
        rfl
      · rw [hav]
        exact ⟨_, _, rfl, hr.made hl⟩
    split at hp
    · rename_i cs hc
      cases hp
      exact key _ hc (.inr ⟨cs, rfl⟩) rfl
    · rename_i hne
      split at hp <;> cases hp
      rename_i hsc
      refine key _ rfl (.inl hsc) ?_
      cases hv : ev t x <;> first | rfl | (rw [hv] at hsc; cases hsc)
  case buildSlice ty n ps =>
    split at hp
    · rename_i e hk
      split at hp
      · rename_i zs sz hz hs
        split at hp
        · rename_i hb
          rw [Option.map_eq_some_iff] at hp
          obtain ⟨cs, hp, rfl⟩ := hp
          simp only [Bool.and_eq_true] at hb
          refine aop_gen fun a w m i hr ho => ?_
          have hpl : PL m i (pparts t ps) (ps.map fun (p : Nat × Operand) => (p.1, a.eval p.2)).toList := by
            rw [Array.toList_map]
            exact PL.of_parts _ fun k hk => ho k (by simpa [Op.operands] using hk)
          have hle : n * sz ≤ 16777216 := Nat.le_of_ble_eq_true hb.1.1.1
          obtain ⟨vs, h1, h2, h3⟩ := run_buildSlice h hk hz hs hle (Nat.eq_of_beq_eq_true hb.1.1.2) (fun v hv => List.all_eq_true.1 hb.2 v hv) hpl hp w
          obtain ⟨r1, r2⟩ := hr.make e vs w.drawn h3
          refine ⟨_, _, _, i, by simp only [execOp, Sem.run_bind, h1]; rfl, ?_, r1, r2⟩
          refine .inr ⟨_, _, n, rfl, Nat.le_refl _, ?_, fun _ => rfl, hr.made h2⟩
          have := Nat.le_of_ble_eq_true hb.1.2
          unfold maxLen
          omega
        · cases hp
      · cases hp
    · cases hp
  case call c =>
    obtain ⟨callee, args, tys⟩ := c
    cases callee <;> simp only at hp <;> first | (cases hp; done) | skip
    rename_i b
    refine aop_val fun a w m i hr ho => ?_
    have hargs : ∀ x ∈ args.toList, VR m i (ev t x) (a.eval x) := fun x hx => opd ho (by simp [Op.operands, Call.operands]; simpa using hx)
    have harr : ∀ {l : List Operand}, args.toList = l → args.map a.eval = (l.map a.eval).toArray := by intro l hl; apply Array.toList_inj.1; simp [hl]
    unfold pcall at hp
    split at hp
    · rename_i x ty hx hty
      have h1 := hargs x (by rw [hx]; simp)
      have hty' : tys[0]? = some ty := by rw [← Array.getElem?_toList, hty]; rfl
      have hx' := harr hx
      have len_slice : ∀ {e : Nat} {ao : Option Addr} {n c : Nat}, lk T.kd ty = some (.slice e) → a.eval x = .slice ao n c → av = .i n →
          ∃ v, (execOp a.eval ⟨dst, .call ⟨.builtin .len, args, tys⟩, type, pos, after, guard⟩).run P w = .ok (.value v) w ∧ VR m i av v := by
        intro e ao n c hk hc hav
        obtain ⟨d, hd, hdk⟩ := h.under hk (by simp)
        refine ⟨.int .i64 n, ?_, by rw [hav]; rfl⟩
        cases d <;> simp only [kdOf] at hdk <;> first | (cases hdk; done) | skip
        simp [execOp, resolve, invoke, builtin, Builtin.len_, hx', hty', hc, run_underlying hd, goInt]
      split at hp <;> cases hp
      · rename_i l hk hc; rw [hc] at h1
        have h1' : a.eval x = _ := h1
        obtain ⟨d, hd, hdk⟩ := h.under hk (by simp)
        refine ⟨_, ?_, rfl⟩
        cases d <;> simp only [kdOf] at hdk <;> first | (cases hdk; done) | skip
        simp [execOp, resolve, invoke, builtin, Builtin.len_, hx', hty', h1', run_underlying hd, goInt]
      · rename_i e hk hc; rw [hc] at h1
        exact len_slice (n := 0) hk h1 rfl
      · rename_i e cs n fu hk hc; rw [hc] at h1
        rcases h1 with ⟨h2, h3, q, h4⟩ | ⟨b, o, cap, h2, _⟩
        · exact len_slice hk h4 (by rw [h2])
        · exact len_slice hk h2 rfl
      · rename_i e cs n fu hk hc; rw [hc] at h1
        rcases h1 with ⟨h2, h3, q, h4⟩ | ⟨b, o, cap, h2, _⟩
        · exact len_slice hk h4 (by rw [h2])
        · exact len_slice hk h2 rfl
      · rename_i e id n hk hc; rw [hc] at h1
        rcases h1 with ⟨h2, h3, h4⟩ | ⟨b, cap, h2, h3, h4⟩
        · exact len_slice hk h4 (by rw [h3])
        · exact len_slice hk h4 rfl
    · rename_i x y hx
      have h1 := hargs x (by rw [hx]; simp)
      have h2 := hargs y (by rw [hx]; simp)
      have hx' := harr hx
      split at hp <;> cases hp
      rename_i hc hd; rw [hc] at h1; rw [hd] at h2
      have h1' : a.eval x = _ := h1
      have h2' : a.eval y = _ := h2
      exact ⟨_, by simp [execOp, resolve, invoke, builtin, Builtin.min_, hx', h1', h2', Builtin.min2], rfl⟩
    · rename_i x y hx
      have h1 := hargs x (by rw [hx]; simp)
      have h2 := hargs y (by rw [hx]; simp)
      have hx' := harr hx
      split at hp <;> cases hp
      rename_i hc hd; rw [hc] at h1; rw [hd] at h2
      have h1' : a.eval x = _ := h1
      have h2' : a.eval y = _ := h2
      exact ⟨_, by simp [execOp, resolve, invoke, builtin, Builtin.max_, hx', h1', h2', Builtin.max2], rfl⟩
    · cases hp

end
end Go.Am
