/- The abstract machine, part 14: literals as writable rows, calls that only look. -/
import Derived.Test.YthkaeeadihplcaaAm13
namespace Go.Am
open Go

section
variable {P : Program} {T : TT} {n : Nat} {t : Tau} {s : Store}

theorem aop_buildRow (h : TTok P T) {o : Oper} {ty k e sz : Nat} {cs ds : List AV} {zs : List Value} {ps : Array (Nat × Operand)} (ho : o.op = .buildSlice ty k ps) (hk : lk T.kd ty = some (.slice e)) (hz : lk T.zero e = some zs) (hs : lk T.sz e = some sz)
    (hb : (Nat.ble (k * sz) 16777216 && Nat.beq zs.length sz && Nat.ble k 16777216 && zs.all Value.oneCell') = true)
    (hf : pfill (fun j => some (j * sz, sz)) ((List.range (k * sz)).map fun j => (zs.map AV.ofConst).getD (j % sz) .any) (pparts t ps) = some cs) (hl : Nat.beq cs.length (k * sz) = true) (hw : WL cs ds) :
    AOp P o t s (fun v z => ∃ id, v = .row id k ∧ z = (id, .row e sz ds 0) :: s) := by
  intro a w m i hr hop K Q hK
  rw [ho] at hop
  simp only [Bool.and_eq_true] at hb
  have hpl : PL m i (pparts t ps) (ps.map fun (p : Nat × Operand) => (p.1, a.eval p.2)).toList := by
    rw [Array.toList_map]
    exact PL.of_parts _ fun k hk => hop k (by simpa [Op.operands] using hk)
  have hle : k * sz ≤ 16777216 := Nat.le_of_ble_eq_true hb.1.1.1
  obtain ⟨vs, h1, h2, h3⟩ := run_buildSlice h hk hz hs hle (Nat.eq_of_beq_eq_true hb.1.1.2) (fun v hv => List.all_eq_true.1 hb.2 v hv) hpl hf w
  have hlen := h2.eq_len
  have hcl := Nat.eq_of_beq_eq_true hl
  have htake : vs.toArray.toList.take cs.length = vs := by rw [hlen]; simp
  have hkm : k ≤ 16777216 := Nat.le_of_ble_eq_true hb.1.2
  obtain ⟨id, m', i', g1, g2, g3, g4⟩ := hr.new e sz k vs.toArray cs w.drawn 0 (by simp; omega) (by unfold maxLen; omega) (by simp; omega) (Nat.zero_le _) (by rw [htake]; exact h3) (by rw [htake]; exact h2)
  unfold Oper.wp
  have hrun : (execOp a.eval o).run P w = .ok (.value (.slice (some ⟨w.heap.size, 0, none⟩) k k)) (w.alloc (.cells vs.toArray e (0, 0))) := by
    simp only [execOp, ho, Sem.run_bind, h1]; rfl
  rw [hrun]
  have g3' := Rel.weakHead g3 hw
  refine hK _ _ (.row id k) _ m' i' ⟨id, rfl, rfl⟩ (.inr ⟨_, _, g2, Nat.le_refl _, rfl⟩) g3' ?_
  refine ⟨g4.os, g4.tape, g4.output, g4.size, g4.mu, g4.io, g4.block, g4.mu', fun p hp => ?_, fun b hb => ?_⟩
  · rcases List.mem_cons.1 hp with rfl | hp
    · exact g4.ids (id, .row e sz cs 0) List.mem_cons_self
    · exact g4.ids p (List.mem_cons_of_mem _ hp)
  · obtain ⟨p, hp, e'⟩ := hb
    rcases List.mem_cons.1 hp with rfl | hp
    · exact g4.blks b ⟨(id, .row e sz cs 0), List.mem_cons_self, e'⟩
    · exact g4.blks b ⟨p, List.mem_cons_of_mem _ hp, e'⟩

theorem Shift.trans {t1 t2 : Tau} {s1 s2 : Store} (h : Shift t s t1 s1) (k : Shift t1 s1 t2 s2) : Shift t s t2 s2 := by
  intro w m i a h1 h2
  obtain ⟨m1, i1, r1, r2, r3⟩ := h w m i a h1 h2
  obtain ⟨m2, i2, q1, q2, q3⟩ := k w m1 i1 a r1 r2
  exact ⟨m2, i2, q1, q2, r3.trans q3⟩
theorem Shift.refl : Shift t s t s := fun w m i _ h1 h2 => ⟨m, i, h1, h2, Step.refl w m i s⟩

/-- A call that only looks at what it is handed, and hands back a plain value: what is ours stays ours. -/
theorem aop_borrow {o : Oper} {f : Operand} {args : Array Operand} {tys : Array TypeId} {fid : Nat} {caps first : List AV} {xs args' : List AV} {s1 : Store} {Q : AV → Store → Prop} {fn : Func} {z : AV}
    (ho : o.op = .call ⟨.value f, args, tys⟩) (hf : ev t f = .fn (.func fid) first caps) (hfn : P.funcs[fid]? = some fn) (hb : fn.body.isNone = false) (hnm : (fn.name == "runtime.NumGoroutine") = false)
    (hs : Shift (fun _ => .any) s (fun _ => .any) s1)
    (hc : ACalls P fid args' [] Q) (hxs : first ++ argAVs t args.toList ++ caps = xs) (hw : VW s1 xs args') (hq : ∀ av s', Q av s' → av = z) (hz : ∀ m i m' i' v, VR m i z v → VR m' i' z v) :
    AOp P o t s (fun v s' => v = z ∧ s' = s) := by
  intro a w m i hr hop K Q' hK
  rw [ho] at hop
  have v1 := opd (x := f) hop (by simp [Op.operands, Call.operands])
  rw [hf] at v1
  obtain ⟨fs, cs, e1, e2, e3⟩ := v1
  have hargs : VL m i (argAVs t args.toList) (args.toList.map a.eval) := VL.map_ev _ fun k hk => hop k (by simp [Op.operands, Call.operands]; exact .inr (by simpa using hk))
  obtain ⟨m1, i1, r1, _, r3⟩ := hs w m i a hr (fun _ => trivial)
  have hall : VL m1 i1 args' (fs ++ args.toList.map a.eval ++ cs) := hw.vl r1 (VL.mono r3.mu r3.io _ _ (hxs ▸ (e2.append hargs).append e3))
  unfold Oper.wp
  have hrun : (execOp a.eval o).run P w = .ok (.enter fid (fs ++ args.toList.map a.eval ++ cs).toArray) w := by
    have harr : fs.toArray ++ Array.map a.eval args ++ cs.toArray = (fs ++ args.toList.map a.eval ++ cs).toArray := by
      apply Array.toList_inj.1; simp
    rw [← harr]
    simp only [execOp, ho, resolve, e1, Deferred.ofValue, invoke, Sem.run_bind, Sem.run_pure, Result.andThen_ok, run_callFunc hfn hb hnm]
  rw [hrun]
  refine (hc w m1 i1 _ (r1.sub (List.nil_sublist _)) hall).mono ?_
  rintro e w' ⟨v, av, s', m', i', rfl, q, hv, hr', hst⟩
  have hno : ∀ b, ¬ owns i1 [] b := fun b ⟨p, hp, _⟩ => by cases hp
  have hblock : ∀ b, b < w.heap.size → w'.heap[b]? = w.heap[b]? := fun b hb => hst.block b hb (hno b)
  have hrel : Rel w' m i s := ⟨fun b o' v hv => by
      have := hr.mu b o' v hv
      refine ⟨?_, this.2⟩
      have hlt := World.block_lt_of_cell? w _ this.1
      rw [← this.1]
      simp only [World.cell?, hblock b hlt], fun p hp => (hr.obj p hp).mono_block (Mu.le_refl _) (Io.le_refl _) (fun b hb => hblock b ((hr.obj p hp).lt hb)) (fun _ _ _ => rfl), hr.apart, hr.fin⟩
  have := hq av s' q
  subst this
  exact hK v w' av s m i ⟨rfl, rfl⟩ (hz _ _ _ _ _ hv) hrel ⟨hst.os, hst.tape, hst.output, hst.size, Mu.le_refl _, Io.le_refl _, fun b hb _ => hblock b hb, fun _ _ _ _ => rfl, fun p hp => .inl ⟨p, hp, rfl⟩, fun _ h => .inl h⟩

theorem lit_any (v : Value) : ∀ (m : Mu) (i : Io) (m' : Mu) (i' : Io) x, VR m i (.lit v) x → VR m' i' (.lit v) x := fun _ _ _ _ _ h => h
end
end Go.Am
