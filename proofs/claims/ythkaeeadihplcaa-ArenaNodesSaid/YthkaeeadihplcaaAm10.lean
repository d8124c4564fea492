/- The abstract machine, part 10: rows that grow, rows that are made. -/
import Derived.Test.YthkaeeadihplcaaAm9
namespace Go.Am
open Go
section
variable {P : Program} {T : TT} {n : Nat} {t : Tau} {s : Store}

theorem mem_eraseIdx {α : Type} {l : List α} {j : Nat} {x : α} (h : x ∈ l.eraseIdx j) : x ∈ l := (List.eraseIdx_sublist l j).subset h

/-- An object gets another number. -/
theorem Rel.rename {w m i} (h : Rel w m i s) {j id : Nat} {o : Ob} (hj : s[j]? = some (id, o)) :
    ∃ k i', i k = none ∧ i' k = i id ∧ Rel w m i' ((k, o) :: s.eraseIdx j) ∧ Step w m i s w m i' ((k, o) :: s.eraseIdx j) := by
  obtain ⟨N, hN⟩ := h.fin
  have hk : i N = none := hN N (Nat.le_refl _)
  obtain ⟨x, hx⟩ := (h.obj _ (List.mem_of_getElem? hj)).id
  simp only at hx
  have hio := Io.le_with (x := x) hk
  have hself : i.with N x N = some x := Io.with_self
  have hbN : blk (i.with N x) N = blk i id := by simp [blk, hself, hx]
  have hjlt : j < s.length := (List.getElem?_eq_some_iff.1 hj).1
  have hjv : s[j] = (id, o) := (List.getElem?_eq_some_iff.1 hj).2
  have hbold : ∀ p ∈ s, blk (i.with N x) p.1 = blk i p.1 := fun p hp => by
    obtain ⟨y, hy⟩ := (h.obj p hp).id
    exact blk_eq hio hy
  have hold : ∀ p ∈ s, p.1 ≠ N := fun p hp e => by
    obtain ⟨y, hy⟩ := (h.obj p hp).id
    rw [e, hk] at hy; cases hy
  have hor : OR w m (i.with N x) N o := by
    have h0 := h.obj _ (List.mem_of_getElem? hj)
    cases o with
    | row e sz cs fz =>
      rcases h0 with ⟨g1, g2⟩ | ⟨b, cap, vs, g1, g2, g3, g4, g5, g6, g7, g8, g9⟩
      · simp only at g1
        rw [hx] at g1; cases g1
        exact .inl ⟨hself, g2⟩
      · simp only at g1
        rw [hx] at g1; cases g1
        exact .inr ⟨b, cap, vs, hself, g2, g3, g4, g5, g6, g7, VL.mono (Mu.le_refl _) hio _ _ g8, g9⟩
    | map es =>
      obtain ⟨b, c, ces, clock, g1, g2, g3⟩ := h0
      simp only at g1
      rw [hx] at g1; cases g1
      exact ⟨b, c, ces, clock, hself, g2, EL.mono (Mu.le_refl _) hio _ _ g3⟩
    | iter s0 pos =>
      obtain ⟨b, c, g1, g2⟩ := h0
      simp only at g1
      rw [hx] at g1; cases g1
      exact ⟨b, c, hself, g2⟩
  have hapj : ∀ q ∈ s.eraseIdx j, Go.Am.apart i (id, o) q := by
    intro q hq
    obtain ⟨k, hk⟩ := List.getElem?_of_mem hq
    have hapw := List.pairwise_iff_getElem.1 h.apart
    rw [List.getElem?_eraseIdx] at hk
    split at hk
    · rename_i hlt
      have hkl := (List.getElem?_eq_some_iff.1 hk).1
      have hkv := (List.getElem?_eq_some_iff.1 hk).2
      have := hapw k j hkl hjlt hlt
      rw [hkv, hjv] at this
      exact apart.symm this
    · have hkl := (List.getElem?_eq_some_iff.1 hk).1
      have hkv := (List.getElem?_eq_some_iff.1 hk).2
      have := hapw j (k + 1) hjlt hkl (by omega)
      rw [hkv, hjv] at this
      exact this
  refine ⟨N, i.with N x, hk, by rw [hself, hx], ⟨h.mu, fun p hp => ?_, ?_, Io.fin_with h.fin⟩, ⟨rfl, rfl, rfl, Nat.le_refl _, Mu.le_refl _, hio, fun _ _ _ => rfl, fun _ _ _ _ => rfl, fun p hp => ?_, fun b hb => ?_⟩⟩
  · rcases List.mem_cons.1 hp with rfl | hp
    · exact hor
    · exact (h.obj p (mem_eraseIdx hp)).mono_block (Mu.le_refl _) hio (fun _ _ => rfl) (fun _ _ _ => rfl)
  · refine List.pairwise_cons.2 ⟨fun q hq => ⟨fun e => hold q (mem_eraseIdx hq) e.symm, fun b hb hbq => ?_⟩, ?_⟩
    · rw [hbN] at hb
      rw [hbold q (mem_eraseIdx hq)] at hbq
      exact (hapj q hq).2 b hb hbq
    · refine (h.apart.sublist (List.eraseIdx_sublist s j)).imp_of_mem ?_
      intro p q hp hq hpq
      exact ⟨hpq.1, fun b hb => by rw [hbold p (mem_eraseIdx hp)] at hb; rw [hbold q (mem_eraseIdx hq)]; exact hpq.2 b hb⟩
  · rcases List.mem_cons.1 hp with rfl | hp
    · exact .inr hk
    · exact .inl ⟨p, mem_eraseIdx hp, rfl⟩
  · obtain ⟨p, hp, e'⟩ := hb
    rcases List.mem_cons.1 hp with rfl | hp
    · rw [hbN] at e'; exact .inl ⟨_, List.mem_of_getElem? hj, e'⟩
    · rw [hbold p (mem_eraseIdx hp)] at e'; exact .inl ⟨p, mem_eraseIdx hp, e'⟩

theorem run_append_zero (t ty e : TypeId) (i : TypeInfo) (ht : P.underlying t = some (.slice e)) (hi : P.info? e = some i) (base : Option Addr) (sLen sCap : Nat) (a : Option Addr) (c : Nat) (h : sLen ≤ sCap) (w : World) :
    (Builtin.append_ #[t, t] ty #[.slice base sLen sCap, .slice a 0 c]).run P w = .ok (.slice base sLen sCap) w := by
  cases a <;> cases base <;> simp [Builtin.append_, run_underlying ht, sizeOf, typeInfo, hi, Builtin.lenOf, h, Builtin.firstCells, loadCells, loadCellsFrom, storeCells]

/-- The elements of an immutable slice, as the model's values. -/
theorem VR.slc_elems {w m i} (hr : Rel w m i s) {cs : List AV} {k sz : Nat} {f : Bool} {v : Value} (h : VR m i (.slc cs k f) v) (hl : cs.length = k * sz) :
    ∃ (a : Option Addr) (c : Nat) (vs : List Value), v = .slice a k c ∧ vs.length = k * sz ∧ VL m i cs vs ∧ Ones vs ∧ (k = 0 ∨ ∃ ad, a = some ad ∧ ∀ j u, vs[j]? = some u → w.cell? (ad.add j) = some u) := by
  rcases h with ⟨rfl, rfl, q, rfl⟩ | ⟨b, o, cap, rfl, h2, h3, h4, h5⟩
  · exact ⟨q, 0, [], rfl, by simp, rfl, (fun x hx => by cases hx), .inl rfl⟩
  · obtain ⟨vs, q1, q2⟩ := h5.list
    refine ⟨some ⟨b, o, none⟩, cap, vs, rfl, by rw [← q1.eq_len, hl], q1, fun x hx => ?_, .inr ⟨_, rfl, fun j u hj => by rw [add_lit]; exact (hr.mu _ _ _ (q2 j u hj)).1⟩⟩
    obtain ⟨j, hj⟩ := List.getElem?_of_mem hx
    exact (hr.mu _ _ _ (q2 j x hj)).2

structure ElemOk (P : Program) (T : TT) (ty e sz : Nat) (i0 : TypeInfo) (z : Value) : Prop where
  under : P.underlying ty = some (.slice e)
  info : P.info? e = some i0
  size : i0.size = sz
  zero : i0.zero = some z
  zsize : z.cells.size = sz

theorem elemOk (h : TTok P T) {ty e sz : Nat} {zs : List Value} (hk : lk T.kd ty = some (.slice e)) (hs : lk T.sz e = some sz) (hz : lk T.zero e = some zs) (hzl : Nat.beq zs.length sz = true) :
    ∃ i0 z, ElemOk P T ty e sz i0 z ∧ z.cells = zs.toArray := by
  obtain ⟨i0, hi, hsz⟩ := h.size hs
  have := h.zero' hz
  rw [hi] at this
  cases hz0 : i0.zero with
  | none => simp [hz0] at this
  | some z =>
    simp [hz0] at this
    have hzc : z.cells = zs.toArray := by rw [← this]
    exact ⟨i0, z, ⟨sliceElem h hk, hi, hsz, hz0, by rw [hzc]; simpa using Nat.eq_of_beq_eq_true hzl⟩, hzc⟩

theorem bytesOf (h : TTok P T) {e by' : Nat} {i0 : TypeInfo} (hi : P.info? e = some i0) (hb : lk T.by' e = some by') : i0.bytes = by' := by
  have := h.by'' hb
  rw [hi] at this; simpa using this

/-- append to a row of our own. -/
theorem aop_append (h : TTok P T) {o : Oper} {x y : Operand} {ty e sz j id k m fz by' : Nat} {cs ds : List AV} {f : Bool} {zs : List Value}
    (ho : o.op = .call ⟨.builtin .append, #[x, y], #[ty, ty]⟩) (hk : lk T.kd ty = some (.slice e)) (hs : lk T.sz e = some sz) (hz : lk T.zero e = some zs) (hzl : Nat.beq zs.length sz = true) (hby : lk T.by' e = some by')
    (hx : ev t x = .row id k) (hy : ev t y = .slc ds m f) (hj : s[j]? = some (id, .row e sz cs fz)) (hcl : cs.length = k * sz) (hdl : ds.length = m * sz) (hb : (k + m) * by' ≤ 140737488355328) (hb1 : Nat.blt 0 by' = true) :
    AOp P o t s (fun v z => ∃ id', v = .row id' (k + m) ∧ z = (id', .row e sz (cs ++ ds) fz) :: s.eraseIdx j) := by
  intro a w mu i hr hop K Q hK
  rw [ho] at hop
  have v1 := opd (x := x) hop (by simp [Op.operands, Call.operands])
  have v2 := opd (x := y) hop (by simp [Op.operands, Call.operands])
  rw [hx] at v1; rw [hy] at v2
  obtain ⟨i0, z, hE, hzc⟩ := elemOk h hk hs hz hzl
  have hbytes := bytesOf h hE.info hby
  have hbpos : 1 ≤ by' := by
    have h' : 0 < by' := by simpa using hb1
    omega
  have hkm : k + m ≤ 140737488355328 := Nat.le_trans (Nat.le_mul_of_pos_right _ hbpos) hb
  have hszi := hE.size
  subst hszi
  obtain ⟨a2, c2, news, q1, q2, q3, q4, q5⟩ := VR.slc_elems hr v2 hdl
  have fin : ∀ v w', (Builtin.append_ #[ty, ty] o.type #[a.eval x, a.eval y]).run P w = .ok v w' →
      (∃ id' m' i', VR m' i' (.row id' (k + m)) v ∧ Rel w' m' i' ((id', .row e i0.size (cs ++ ds) fz) :: s.eraseIdx j) ∧ Step w mu i s w' m' i' ((id', .row e i0.size (cs ++ ds) fz) :: s.eraseIdx j)) → o.wp P a w K Q := by
    intro v w' hrun ⟨id', m', i', r1, r2, r3⟩
    unfold Oper.wp
    have : (execOp a.eval o).run P w = .ok (.value v) w' := by
      simp [execOp, ho, resolve, invoke, builtin, hrun]
    rw [this]
    exact hK _ _ (.row id' (k + m)) _ m' i' ⟨id', rfl, rfl⟩ r1 r2 r3
  by_cases hm : m = 0
  · subst hm
    have hds : ds = [] := List.eq_nil_of_length_eq_zero (by simpa using hdl)
    subst hds
    obtain ⟨id', i', g1, g2, g3, g4⟩ := hr.rename hj
    rw [q1] at fin
    rcases v1 with ⟨u1, u2, u3⟩ | ⟨b, cap, u1, u2, u3⟩
    · subst u2
      rw [u3] at fin
      exact fin _ _ (run_append_zero ty o.type e i0 hE.under hE.info none 0 0 a2 c2 (Nat.le_refl _) w) ⟨id', mu, i', .inl ⟨by rw [g2]; exact u1, rfl, rfl⟩, by simpa using g3, by simpa using g4⟩
    · rw [u3] at fin
      exact fin _ _ (run_append_zero ty o.type e i0 hE.under hE.info _ k cap a2 c2 u2 w) ⟨id', mu, i', .inr ⟨b, cap, by rw [g2]; exact u1, u2, rfl⟩, by simpa using g3, by simpa using g4⟩
  · rcases q5 with q5 | ⟨ad, rfl, q5⟩
    · exact absurd q5 hm
    rw [q1] at fin
    have sub : Rel w mu i (s.eraseIdx j) := hr.sub (List.eraseIdx_sublist s j)
    have toS : ∀ {w' m' i' s'}, Step w mu i (s.eraseIdx j) w' m' i' s' → Step w mu i s w' m' i' s' := by
      intro w' m' i' s' hst
      have hle : ∀ b, owns i (s.eraseIdx j) b → owns i s b := fun b ⟨p, hp, hb⟩ => ⟨p, mem_eraseIdx hp, hb⟩
      exact ⟨hst.os, hst.tape, hst.output, hst.size, hst.mu, hst.io, fun b hb hno => hst.block b hb fun hh => hno (hle b hh), fun b hb hno => hst.mu' b hb fun hh => hno (hle b hh),
        fun p hp => (hst.ids p hp).imp (fun ⟨q, hq, e'⟩ => ⟨q, mem_eraseIdx hq, e'⟩) (fun h => h), fun b hb => (hst.blks b hb).imp (hle b) (fun h => h)⟩
    -- a new row
    have grow : ∀ (olds : List Value) (cap old : Nat) (rest : Array Value), VL mu i cs olds → Ones olds → olds.length = k * i0.size → k + m ≤ cap → cap ≤ maxLen → rest.size = (cap - (k + m)) * i0.size → fz ≤ cs.length →
        (Builtin.append_ #[ty, ty] o.type #[a.eval x, .slice (some ad) m c2]).run P w = .ok (.slice (some ⟨w.heap.size, 0, none⟩) (k + m) cap) (w.drew.alloc (.cells (olds.toArray ++ news.toArray ++ rest) e)) → o.wp P a w K Q := by
      intro olds cap old rest g1 g2 g3 g4 g5 g6 g8 g7
      have hl : (cs ++ ds).length = (olds ++ news).length := by rw [List.length_append, List.length_append, hcl, hdl, g3, q2]
      have hta : (olds.toArray ++ news.toArray ++ rest).toList.take (cs ++ ds).length = olds ++ news := by
        rw [hl]
        simp only [Array.toList_append]
        exact List.take_left
      have hsz : (olds.toArray ++ news.toArray ++ rest).size = cap * i0.size := by
        simp only [Array.size_append, List.size_toArray, g3, q2, g6, ← Nat.add_mul]
        congr 1; omega
      obtain ⟨id', m', i', r1, r2, r3, r4⟩ := sub.new e i0.size cap (olds.toArray ++ news.toArray ++ rest) (cs ++ ds) (w.drawn + 1) fz hsz g5 (by rw [hl]; simp) (by simp; omega)
        (by rw [hta]; intro y hy; rcases List.mem_append.1 hy with hy | hy; exact g2 y hy; exact q4 y hy) (by rw [hta]; exact g1.append q3)
      exact fin _ _ g7 ⟨id', m', i', .inr ⟨_, cap, r2, g4, rfl⟩, r3, toS r4⟩
    rcases v1 with ⟨u1, u2, u3⟩ | ⟨b, cap, u1, u2, u3⟩
    · subst u2
      have hcs : cs = [] := List.eq_nil_of_length_eq_zero (by simpa using hcl)
      subst hcs
      have hfz : fz ≤ ([] : List AV).length := by
        rcases hr.obj _ (List.mem_of_getElem? hj) with ⟨_, _, h3⟩ | ⟨b', cap', vs', h1', _, _, _, _, h6', _⟩
        · exact h3 ▸ Nat.zero_le _
        · exact h6'
      have hrun := run_append_nil (P := P) w ty o.type e i0 z hE.under hE.info hE.zero ad m c2 news q2 q5 (by omega) (by omega) (by rw [hbytes]; simp only [Nat.zero_add] at hb; omega)
      refine grow [] (grownCap w m 0 e) 0 (Builtin.zeroCells z.cells (grownCap w m 0 e - m)) rfl (fun _ h => by cases h) (by simp) (by simpa using grownCap_ge w m 0 e) (grownCap_le_maxLen w m 0 e (by unfold maxLen; omega)) (by rw [size_zeroCells, hE.zsize]; simp) hfz ?_
      rw [u3]
      simpa using hrun
    · obtain ⟨vs, g1, g2, g3, g4, g5, g6, g7, g8, g9⟩ := hr.row hj u1
      by_cases hroom : k + m ≤ cap
      · have hrun := run_append_room (P := P) w ty o.type e i0 hE.under hE.info b k cap vs g1 ad m c2 news q2 q5 q4 hroom (by rw [g2, q2, ← Nat.add_mul]; exact Nat.mul_le_mul_right _ hroom)
        have hfit : k * i0.size + m * i0.size ≤ vs.size := by rw [g2, ← Nat.add_mul]; exact Nat.mul_le_mul_right _ hroom
        have ltake : (vs.toList.take (k * i0.size)).length = k * i0.size := by rw [List.length_take, Array.length_toList]; omega
        have hlen : (vs.toList.take (k * i0.size) ++ news ++ vs.toList.drop (k * i0.size + news.length)).length = vs.size := by
          simp only [List.length_append, List.length_drop, Array.length_toList, ltake, q2]; omega
        have htk : (vs.toList.take (k * i0.size) ++ news ++ vs.toList.drop (k * i0.size + news.length)).take (cs ++ ds).length = vs.toList.take cs.length ++ news := by
          rw [hcl]
          have : (cs ++ ds).length = (vs.toList.take (k * i0.size) ++ news).length := by rw [List.length_append, List.length_append, ltake, q2, hcl, hdl]
          rw [this]
          exact List.take_left
        obtain ⟨r1, r2⟩ := hr.change hj u1 (vs' := (vs.toList.take (k * i0.size) ++ news ++ vs.toList.drop (k * i0.size + news.length)).toArray) (cs' := cs ++ ds)
          (by rw [← g2]; simpa using hlen) (by rw [List.length_append, hcl, hdl]; simp only [List.size_toArray, hlen]; omega) (by rw [List.length_append]; omega)
          (by simp only [htk]; intro y hy; rcases List.mem_append.1 hy with hy | hy; exact g6 y hy; exact q4 y hy)
          (by simp only [htk]; exact g7.append q3) g1
          (by
            intro o' ho'
            have hlt : o' < k * i0.size := by omega
            simp only [List.getElem?_toArray, List.append_assoc]
            rw [List.getElem?_append_left (by rw [ltake]; exact hlt), List.getElem?_take, if_pos hlt]
            simp)
        have hj' : (s.set j (id, Ob.row e i0.size (cs ++ ds) fz))[j]? = some (id, Ob.row e i0.size (cs ++ ds) fz) := by
          rw [List.getElem?_set_self (List.getElem?_eq_some_iff.1 hj).1]
        obtain ⟨id', i', p1, p2, p3, p4⟩ := r1.rename hj'
        have her : (s.set j (id, Ob.row e i0.size (cs ++ ds) fz)).eraseIdx j = s.eraseIdx j := by rw [List.eraseIdx_set_eq]
        rw [her] at p3 p4
        rw [u3] at fin
        exact fin _ _ hrun ⟨id', mu, i', .inr ⟨b, cap, by rw [p2]; exact u1, hroom, rfl⟩, p3, r2.trans p4⟩
      · have holds : ∀ (j' : Nat) (u : Value), (vs.toList.take cs.length)[j']? = some u → w.cell? ((⟨b, 0, none⟩ : Addr).add j') = some u := fun j' u hu => by
          rw [add_lit, Nat.zero_add, cell_of_row w b j' vs e (0, 0) g1]
          have := take_get hu
          simpa using this
        have hvl : vs.toList.length = vs.size := by simp
        have hol : (vs.toList.take cs.length).length = k * i0.size := by rw [List.length_take, hvl]; omega
        have hrun := run_append_grow (P := P) w ty o.type e i0 z hE.under hE.info hE.zero ⟨b, 0, none⟩ k cap (vs.toList.take cs.length) hol holds ad m c2 news q2 q5 (Nat.lt_of_not_le hroom) (by omega) (by
          rw [hbytes]; exact growslice_fits (Nat.lt_of_not_le hroom) hb)
        refine grow (vs.toList.take cs.length) (grownCap w (k + m) cap e) cap (Builtin.zeroCells z.cells (grownCap w (k + m) cap e - (k + m))) g7 g6 hol (grownCap_ge w (k + m) cap e) (grownCap_le_maxLen w (k + m) cap e (by unfold maxLen; omega)) (by rw [size_zeroCells, hE.zsize]) g5 ?_
        rw [u3]
        exact hrun

theorem Ones.zeros {z : Array Value} (hz : Ones z.toList) (k : Nat) : Ones (Builtin.zeroCells z k).toList := by
  intro v hv
  simp only [Builtin.zeroCells, Array.toList_map, Array.toList_range, List.mem_map, List.mem_range] at hv
  obtain ⟨j, hj, rfl⟩ := hv
  have hlt : j % z.size < z.size := Nat.mod_lt _ (by
    rcases Nat.eq_zero_or_pos z.size with h0 | h0
    · rw [h0] at hj; simp at hj
    · exact h0)
  rw [getElem!_pos z (j % z.size) hlt]
  exact hz _ (by simp)

/-- append to a slice that has no room left (or is none): an immutable slice comes of it. -/
theorem aop_appendCopy (h : TTok P T) {o : Oper} {x y : Operand} {ty e sz k m by' : Nat} {cs ds : List AV} {f : Bool} {zs : List Value}
    (ho : o.op = .call ⟨.builtin .append, #[x, y], #[ty, ty]⟩) (hk : lk T.kd ty = some (.slice e)) (hs : lk T.sz e = some sz) (hz : lk T.zero e = some zs) (hzl : (Nat.beq zs.length sz && zs.all Value.oneCell') = true) (hby : lk T.by' e = some by')
    (hx : ev t x = .slc cs k true) (hy : ev t y = .slc ds m f) (hcl : cs.length = k * sz) (hdl : ds.length = m * sz) (hb : (k + m) * by' ≤ 140737488355328) (hb1 : Nat.blt 0 by' = true) :
    AOp P o t s (fun v z => v = .slc (cs ++ ds) (k + m) false ∧ z = s) := by
  refine aop_gen fun a w mu i hr hop => ?_
  rw [ho] at hop
  have v1 := opd (x := x) hop (by simp [Op.operands, Call.operands])
  have v2 := opd (x := y) hop (by simp [Op.operands, Call.operands])
  rw [hx] at v1; rw [hy] at v2
  simp only [Bool.and_eq_true] at hzl
  obtain ⟨i0, z, hE, hzc⟩ := elemOk h hk hs hz hzl.1
  have hbytes := bytesOf h hE.info hby
  have hbpos : 1 ≤ by' := by
    have h' : 0 < by' := by simpa using hb1
    omega
  have hkm : k + m ≤ 140737488355328 := Nat.le_trans (Nat.le_mul_of_pos_right _ hbpos) hb
  have hszi := hE.size
  subst hszi
  have hzo : Ones z.cells.toList := by rw [hzc]; exact fun v hv => List.all_eq_true.1 hzl.2 v (by simpa using hv)
  obtain ⟨a1, c1, olds, p1, p2, p3, p4, p5⟩ := VR.slc_elems hr v1 hcl
  obtain ⟨a2, c2, news, q1, q2, q3, q4, q5⟩ := VR.slc_elems hr v2 hdl
  have hc1 : c1 = k := by
    rcases v1 with ⟨u1, u2, q, u3⟩ | ⟨b, o', cap, u1, u2, u3, u4, _⟩
    · rw [p1] at u3; cases u3; exact u1.symm ▸ rfl
    · rw [p1] at u1; cases u1; exact u4 rfl
  subst hc1
  have fin : ∀ v w', (Builtin.append_ #[ty, ty] o.type #[a.eval x, a.eval y]).run P w = .ok v w' → (execOp a.eval o).run P w = .ok (.value v) w' := by
    intro v w' hrun
    simp [execOp, ho, resolve, invoke, builtin, hrun]
  by_cases hm : m = 0
  · subst hm
    have hds : ds = [] := List.eq_nil_of_length_eq_zero (by simpa using hdl)
    subst hds
    refine ⟨a.eval x, w, mu, i, fin _ _ (by rw [p1, q1]; exact run_append_zero ty o.type e i0 hE.under hE.info a1 c1 c1 a2 c2 (Nat.le_refl _) w), ?_, hr, Step.refl _ _ _ _⟩
    simp only [List.append_nil, Nat.add_zero]
    exact Weak.slc_full _ _ _ _ _ _ v1
  · rcases q5 with q5 | ⟨ad, rfl, q5⟩
    · exact absurd q5 hm
    have done : ∀ (cap : Nat) (rest : Array Value), c1 + m ≤ cap → cap ≤ maxLen → Ones rest.toList →
        (Builtin.append_ #[ty, ty] o.type #[a.eval x, a.eval y]).run P w = .ok (.slice (some ⟨w.heap.size, 0, none⟩) (c1 + m) cap) (w.drew.alloc (.cells (olds.toArray ++ news.toArray ++ rest) e)) →
        ∃ v w' m' i', (execOp a.eval o).run P w = .ok (.value v) w' ∧ VR m' i' (.slc (cs ++ ds) (c1 + m) false) v ∧ Rel w' m' i' s ∧ Step w mu i s w' m' i' s := by
      intro cap rest g1 g2 g3 hrun
      have hone : Ones (olds ++ news ++ rest.toList) := by
        intro v hv
        rcases List.mem_append.1 hv with hv | hv
        · rcases List.mem_append.1 hv with hv | hv
          · exact p4 v hv
          · exact q4 v hv
        · exact g3 v hv
      obtain ⟨r1, r2⟩ := hr.make e (olds ++ news ++ rest.toList) (w.drawn + 1) hone
      have harr : (olds ++ news ++ rest.toList).toArray = olds.toArray ++ news.toArray ++ rest := by apply Array.toList_inj.1; simp
      rw [harr] at r1 r2
      refine ⟨_, _, _, i, fin _ _ hrun, .inr ⟨_, 0, cap, rfl, g1, g2, fun h => (by cases h), ?_⟩, r1, r2⟩
      refine VC.of_list (VL.mono (Mu.le_more hr _) (Io.le_refl _) _ _ (p3.append q3)) fun k v hk => ?_
      unfold Mu.more
      rw [if_pos rfl, Nat.zero_add, List.getElem?_append_left (List.getElem?_eq_some_iff.1 hk).1]
      exact hk
    rcases p5 with p5 | ⟨ad1, rfl, p5⟩
    · subst p5
      have hcs : cs = [] := List.eq_nil_of_length_eq_zero (by simpa using hcl)
      subst hcs
      have hol : olds = [] := List.eq_nil_of_length_eq_zero (by simpa using p2)
      subst hol
      cases a1 with
      | none =>
        have hrun := run_append_nil (P := P) w ty o.type e i0 z hE.under hE.info hE.zero ad m c2 news q2 q5 (by omega) (by omega) (by rw [hbytes]; simp only [Nat.zero_add] at hb; omega)
        refine done (grownCap w m 0 e) (Builtin.zeroCells z.cells (grownCap w m 0 e - m)) (by simpa using grownCap_ge w m 0 e) (grownCap_le_maxLen w m 0 e (by unfold maxLen; omega)) (Ones.zeros hzo _) ?_
        rw [p1, q1]
        simpa using hrun
      | some ad1 =>
        have hrun := run_append_grow (P := P) w ty o.type e i0 z hE.under hE.info hE.zero ad1 0 0 [] (by simp) (by simp) ad m c2 news q2 q5 (by omega) (by omega) (by rw [hbytes]; exact growslice_fits (by omega) hb)
        refine done (grownCap w (0 + m) 0 e) (Builtin.zeroCells z.cells (grownCap w (0 + m) 0 e - (0 + m))) (grownCap_ge w (0 + m) 0 e) (grownCap_le_maxLen w (0 + m) 0 e (by unfold maxLen; omega)) (Ones.zeros hzo _) ?_
        rw [p1, q1]
        exact hrun
    · have hrun := run_append_grow (P := P) w ty o.type e i0 z hE.under hE.info hE.zero ad1 c1 c1 olds p2 p5 ad m c2 news q2 q5 (by omega) (by omega) (by rw [hbytes]; exact growslice_fits (by omega) hb)
      refine done (grownCap w (c1 + m) c1 e) (Builtin.zeroCells z.cells (grownCap w (c1 + m) c1 e - (c1 + m))) (grownCap_ge w (c1 + m) c1 e) (grownCap_le_maxLen w (c1 + m) c1 e (by unfold maxLen; omega)) (Ones.zeros hzo _) ?_
      rw [p1, q1]
      exact hrun

/-- An element's address in a row of our own. -/
theorem aop_indexRow (h : TTok P T) {o : Oper} {ty e sz id k : Nat} {x y : Operand} {kd : IntKind} {j : Int} (ho : o.op = .indexAddr ty x y) (hk : lk T.kd ty = some (.slice e)) (hsz : lk T.sz e = some sz)
    (hx : ev t x = .row id k) (hy : ev t y = .lit (.int kd j)) (h0 : 0 ≤ j) (h1 : j < k) : AOp P o t s (fun v z => v = .ref id (j.toNat * sz) ∧ z = s) := by
  refine aop_val fun a w m i hr hop => ?_
  rw [ho] at hop
  have v1 := opd (x := x) hop (by simp [Op.operands])
  have v2 := opd (x := y) hop (by simp [Op.operands])
  rw [hx] at v1; rw [hy] at v2
  have v2' : a.eval y = .int kd j := v2
  obtain ⟨i0, hi, hs⟩ := h.size hsz
  rcases v1 with ⟨_, hn, _⟩ | ⟨b, cap, e1, e2, e3⟩
  · omega
  · refine ⟨.pointer (some ⟨b, 0 + j.toNat * sz, none⟩), ?_, b, cap, e1, by rw [Nat.zero_add]⟩
    simp [execOp, ho, Instr.indexAt, v2', asIntOf, run_underlying (sliceElem h hk), e3, h0, h1, sizeOf, typeInfo, hi, hs, add_lit]

/-- make of a slice. -/
theorem aop_makeSlice (h : TTok P T) {o : Oper} {ty e sz by' : Nat} {x y : Operand} {zs : List Value} {k1 k2 : IntKind} {l : Int}
    (ho : o.op = .makeSlice ty x y) (hk : lk T.kd ty = some (.slice e)) (hs : lk T.sz e = some sz) (hz : lk T.zero e = some zs) (hzl : (Nat.beq zs.length sz && zs.all Value.oneCell') = true) (hby : lk T.by' e = some by')
    (hx : ev t x = .lit (.int k1 l)) (hy : ev t y = .lit (.int k2 l)) (h0 : 0 ≤ l) (hb : l.toNat * by' ≤ 140737488355328) (hb1 : Nat.blt 0 by' = true) :
    AOp P o t s (fun v z => ∃ id, v = .row id l.toNat ∧ z = (id, .row e sz ((List.range (l.toNat * sz)).map fun j => (zs.map AV.lit).getD (j % sz) .any) 0) :: s) := by
  intro a w mu i hr hop K Q hK
  rw [ho] at hop
  have v1 := opd (x := x) hop (by simp [Op.operands])
  have v2 := opd (x := y) hop (by simp [Op.operands])
  rw [hx] at v1; rw [hy] at v2
  have v1' : a.eval x = .int k1 l := v1
  have v2' : a.eval y = .int k2 l := v2
  simp only [Bool.and_eq_true] at hzl
  obtain ⟨i0, z, hE, hzc⟩ := elemOk h hk hs hz hzl.1
  have hbytes := bytesOf h hE.info hby
  have hbpos : 1 ≤ by' := by
    have h' : 0 < by' := by simpa using hb1
    omega
  have hkm : l.toNat ≤ 140737488355328 := Nat.le_trans (Nat.le_mul_of_pos_right _ hbpos) hb
  have hszi := hE.size
  subst hszi
  have hzlen : zs.length = i0.size := Nat.eq_of_beq_eq_true hzl.1
  have hone : Ones zs := fun v hv => List.all_eq_true.1 hzl.2 v hv
  have hmul : (i0.bytes : Int) * l ≤ 281474976710656 := by
    have h2 : by' * l.toNat ≤ 140737488355328 := by rw [Nat.mul_comm]; exact hb
    have : ((by' * l.toNat : Nat) : Int) ≤ 140737488355328 := by omega
    rw [Int.natCast_mul, Int.toNat_of_nonneg h0] at this
    rw [hbytes]; omega
  have hrun := run_make (P := P) w ty e i0 z hE.under hE.info hE.zero k1 k2 l l h0 (Int.le_refl _) hmul (by omega)
  have hmade : madeCells z.cells (l.toNat * i0.size) = ((Array.range (l.toNat * i0.size)).map fun j => zs.toArray[j % zs.toArray.size]!) := by rw [hzc]; rfl
  have hlen : ((List.range (l.toNat * i0.size)).map fun j => (zs.map AV.lit).getD (j % i0.size) .any).length = l.toNat * i0.size := by simp
  have htake : (madeCells z.cells (l.toNat * i0.size)).toList.take ((List.range (l.toNat * i0.size)).map fun j => (zs.map AV.lit).getD (j % i0.size) .any).length = ((Array.range (l.toNat * i0.size)).map fun j => zs.toArray[j % zs.toArray.size]!).toList := by
    rw [hmade, hlen, List.take_of_length_le (by simp)]
  obtain ⟨id, m', i', g1, g2, g3, g4⟩ := hr.new e i0.size l.toNat (madeCells z.cells (l.toNat * i0.size)) ((List.range (l.toNat * i0.size)).map fun j => (zs.map AV.lit).getD (j % i0.size) .any) w.drawn 0 (size_madeCells _ _) (by unfold maxLen; omega)
    (by rw [hlen, size_madeCells]; exact Nat.le_refl _) (Nat.zero_le _) (by rw [htake]; exact Ones.tile hone hzlen) (by rw [htake]; exact VL.tile l.toNat i0.size hzlen)
  unfold Oper.wp
  have : (execOp a.eval o).run P w = .ok (.value (.slice (some ⟨w.heap.size, 0, none⟩) l.toNat l.toNat)) (w.alloc (.cells (madeCells z.cells (l.toNat * i0.size)) e)) := by
    simp [execOp, ho, v1', v2', hrun]
  rw [this]
  exact hK _ _ (.row id l.toNat) _ m' i' ⟨id, rfl, rfl⟩ (.inr ⟨_, _, g2, Nat.le_refl _, rfl⟩) g3 g4
end
end Go.Am
