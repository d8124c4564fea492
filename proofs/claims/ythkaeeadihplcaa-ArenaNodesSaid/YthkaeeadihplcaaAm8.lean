/- The abstract machine, part 8: views of one value; the store's objects: read, written, made, sealed. -/
import Derived.Test.YthkaeeadihplcaaAm7
namespace Go.Am
open Go

def WL : List AV → List AV → Prop
  | [], l => l = []
  | x :: xs, l => ∃ y ys, l = y :: ys ∧ Weak x y ∧ WL xs ys
theorem WL.refl : ∀ l, WL l l
  | [] => rfl
  | x :: xs => ⟨x, xs, rfl, Weak.refl x, WL.refl xs⟩
theorem WL.nil : WL [] [] := rfl
theorem WL.cons {x y : AV} {xs ys : List AV} (h : Weak x y) (k : WL xs ys) : WL (x :: xs) (y :: ys) := ⟨y, ys, rfl, h, k⟩
theorem WL.same {x : AV} {xs ys : List AV} (k : WL xs ys) : WL (x :: xs) (x :: ys) := ⟨x, ys, rfl, Weak.refl x, k⟩
theorem WL.vl {m : Mu} {i : Io} : ∀ {xs ys : List AV} {vs : List Value}, WL xs ys → VL m i xs vs → VL m i ys vs
  | [], _, _, h, k => by rw [h]; exact k
  | x :: xs, _, vs, ⟨y, ys, h1, h2, h3⟩, ⟨v, vs', k1, k2, k3⟩ => by subst h1; exact ⟨v, vs', k1, h2 _ _ _ k2, WL.vl h3 k3⟩
theorem WL.vc {m : Mu} {i : Io} : ∀ {xs ys : List AV} {b o : Nat}, WL xs ys → VC m i xs b o → VC m i ys b o
  | [], _, _, _, h, k => by rw [h]; exact k
  | x :: xs, _, b, o, ⟨y, ys, h1, h2, h3⟩, ⟨⟨v, k1, k2⟩, k3⟩ => by subst h1; exact ⟨⟨v, k1, h2 _ _ _ k2⟩, WL.vc h3 k3⟩
theorem Weak.ptr {xs ys : List AV} (h : WL xs ys) : Weak (.ptr xs) (.ptr ys) := fun _ _ _ ⟨b, o, h1, h2⟩ => ⟨b, o, h1, h.vc h2⟩
theorem Weak.agg {xs ys : List AV} (h : WL xs ys) : Weak (.agg xs) (.agg ys) := fun _ _ _ ⟨vs, h1, h0, h2⟩ => ⟨vs, h1, h0, h.vl h2⟩
theorem Weak.tup {xs ys : List AV} (h : WL xs ys) : Weak (.tup xs) (.tup ys) := fun _ _ _ ⟨vs, h1, h2⟩ => ⟨vs, h1, h.vl h2⟩
theorem Weak.ptr_take (xs ys : List AV) : Weak (.ptr (xs ++ ys)) (.ptr xs) := fun m i _ ⟨b, o, h1, h2⟩ => ⟨b, o, h1, by have := VC.take xs.length h2; rwa [List.take_left] at this⟩
theorem Weak.of_eq {x y : AV} (h : x = y) : Weak x y := h ▸ Weak.refl x

section
variable {P : Program} {T : TT} {n : Nat} {t : Tau} {s : Store}

theorem Shift.weak (k : Nat) {x y : AV} (hx : t k = x) (h : Weak x y) : Shift t s (t.put (some k) y) s := by
  intro w m i a h1 h2
  refine ⟨m, i, h1, fun j => ?_, Step.refl _ _ _ _⟩
  simp only [Tau.put]
  by_cases e : j = k
  · subst e; rw [nbeq_self, if_pos rfl]; exact h _ _ _ (hx ▸ h2 j)
  · rw [nbeq_ne e, if_neg (by simp)]; exact h2 j

/-! ### objects -/
theorem Rel.row {w m i} (h : Rel w m i s) {j id e sz : Nat} {cs : List AV} {fz : Nat} (hj : s[j]? = some (id, .row e sz cs fz)) {b cap : Nat} (hi : i id = some (some (b, cap))) :
    ∃ vs, w.heap[b]? = some (.cells vs e (0, 0)) ∧ vs.size = cap * sz ∧ cap ≤ maxLen ∧ cs.length ≤ vs.size ∧ fz ≤ cs.length ∧ Ones (vs.toList.take cs.length) ∧
        VL m i cs (vs.toList.take cs.length) ∧ (∀ o, o < fz → m b o = vs[o]?) ∧ (∀ o, fz ≤ o → m b o = none) := by
  have := h.obj _ (List.mem_of_getElem? hj)
  rcases this with ⟨h1, _⟩ | ⟨b', cap', vs, h1, h2, h3⟩
  · rw [hi] at h1; cases h1
  · rw [hi] at h1; cases h1
    exact ⟨vs, h2, h3⟩

theorem take_get {α : Type} {l : List α} {n k : Nat} {x : α} (h : (l.take n)[k]? = some x) : l[k]? = some x := by
  rw [List.getElem?_take] at h
  split at h
  · exact h
  · cases h

theorem run_loadRef (h : TTok P T) {w m i} (hr : Rel w m i s) {ty id off j e sz fz : Nat} {cs : List AV} {av : AV} {v0 : Value} (v1 : VR m i (.ref id off) v0) (hj : s[j]? = some (id, .row e sz cs fz))
    (hl : (match T.lay ty with | some (true, n) => if Nat.ble (off + n) cs.length then some (AV.agg ((cs.drop off).take n)) else none | some (false, _) => cs[off]? | none => none) = some av) :
    ∃ v, (Instr.loadAt ty v0).run P w = .ok v w ∧ VR m i av v := by
  obtain ⟨b, cap, hi, v2⟩ := v1
  obtain ⟨vs, g1, g2, g3, g4, g5, g6, g7, g8, g9⟩ := hr.row hj hi
  have cell : ∀ (k : Nat) (v : Value), vs[k]? = some v → w.cell? ⟨b, k, none⟩ = some v := fun k v hv => by rw [cell_of_row w b k vs e (0, 0) g1]; exact hv
  split at hl
  · rename_i n hlay
    split at hl
    · rename_i hle
      cases hl
      have hle' : off + n ≤ cs.length := Nat.le_of_ble_eq_true hle
      have q1 : VL m i ((cs.drop off).take n) (((vs.toList.take cs.length).drop off).take n) := (g7.drop off).take n
      have q2 : (((vs.toList.take cs.length).drop off).take n).length = n := by
        simp only [List.length_take, List.length_drop, Array.length_toList]; omega
      refine ⟨.agg (((vs.toList.take cs.length).drop off).take n).toArray, ?_, _, rfl, fun y hy => g6 y (List.mem_of_mem_drop (List.mem_of_mem_take hy)), q1⟩
      have := run_loadAt_list (w := w) (b := b) (o := off) h hlay _ q2 (fun k v hk => cell _ _ (by
        have := take_get hk
        rw [List.getElem?_drop] at this
        have := take_get this
        simpa using this))
      rw [v2, this]; rfl
    · cases hl
  · rename_i n hlay
    obtain ⟨v, q1, q2⟩ := g7.get _ _ hl
    have hn := (TT.lay_inv hlay).choose_spec.2.2.2 rfl
    subst hn
    have q3 : vs[off]? = some v := by have := take_get q1; simpa using this
    refine ⟨v, ?_, q2⟩
    have := run_loadAt_list (w := w) (b := b) (o := off) h hlay [v] rfl (fun k u hk => by
      cases k with
      | zero => simp at hk; subst hk; exact cell _ _ q3
      | succ k => simp at hk)
    rw [v2, this]; rfl
  · cases hl

theorem aop_loadRef (h : TTok P T) {o : Oper} {ty : Nat} {x : Operand} {id off j e sz fz : Nat} {cs : List AV} {av : AV} (ho : o.op = .load ty x) (hx : ev t x = .ref id off) (hj : s[j]? = some (id, .row e sz cs fz))
    (hl : (match T.lay ty with | some (true, n) => if Nat.ble (off + n) cs.length then some (AV.agg ((cs.drop off).take n)) else none | some (false, _) => cs[off]? | none => none) = some av) :
    AOp P o t s (fun v z => v = av ∧ z = s) := by
  refine aop_val fun a w m i hr hop => ?_
  rw [ho] at hop
  have v1 := opd (x := x) hop (by simp [Op.operands])
  rw [hx] at v1
  obtain ⟨v, h1, h2⟩ := run_loadRef h hr v1 hj hl
  exact ⟨v, by simp [execOp, ho, h1], h2⟩

/-- A result that lies in an object. -/
theorem res1_cell (h : TTok P T) {ty a id off j e sz fz : Nat} {cs : List AV} {av : AV} (hx : t a = .ref id off) (hj : s[j]? = some (id, .row e sz cs fz))
    (hl : (match T.lay ty with | some (true, n) => if Nat.ble (off + n) cs.length then some (AV.agg ((cs.drop off).take n)) else none | some (false, _) => cs[off]? | none => none) = some av) : ResOk1 P t s (.cell a ty) av := by
  intro w m i act hr ht
  have v1 := ht a
  rw [hx] at v1
  obtain ⟨v, h1, h2⟩ := run_loadRef h hr v1 hj hl
  refine ⟨v, ?_, h2⟩
  obtain ⟨b, cap, hi, v2⟩ := v1
  rw [v2] at h1
  simp only [resSem, v2]
  simpa [Instr.loadAt, Instr.sureAddr, asAddr] using h1

/-- The store behind a change of one object in its own block. -/
theorem Rel.change {w m i} (h : Rel w m i s) {j id e sz : Nat} {cs : List AV} {fz : Nat} (hj : s[j]? = some (id, .row e sz cs fz)) {b cap : Nat} (hi : i id = some (some (b, cap))) {vs' : Array Value} {cs' : List AV}
    (hsz : vs'.size = cap * sz) (hlen : cs'.length ≤ vs'.size) (hfz : fz ≤ cs'.length) (hone : Ones (vs'.toList.take cs'.length)) (hvl : VL m i cs' (vs'.toList.take cs'.length))
    {vs : Array Value} (hvs : w.heap[b]? = some (.cells vs e (0, 0))) (hold : ∀ o, o < fz → vs'[o]? = vs[o]?) :
    Rel (w.setRow b vs') m i (s.set j (id, .row e sz cs' fz)) ∧ Step w m i s (w.setRow b vs') m i (s.set j (id, .row e sz cs' fz)) := by
  obtain ⟨vs0, g1, g2, g3, g4, g5, g6, g7, g8, g9⟩ := h.row hj hi
  rw [hvs] at g1
  cases g1
  have hjlt : j < s.length := (List.getElem?_eq_some_iff.1 hj).1
  have hjv : s[j] = (id, .row e sz cs fz) := (List.getElem?_eq_some_iff.1 hj).2
  have hblk : blk i id = some b := by simp [blk, hi]
  have hids : ∀ p ∈ s.set j (id, .row e sz cs' fz), ∃ q ∈ s, q.1 = p.1 := by
    intro p hp
    obtain ⟨k, hk⟩ := List.getElem?_of_mem hp
    rw [List.getElem?_set] at hk
    split at hk
    · rename_i e1; subst e1
      cases hk
      exact ⟨_, List.mem_of_getElem? hj, rfl⟩
    · exact ⟨p, List.mem_of_getElem? hk, rfl⟩
  have howns : ∀ c, owns i (s.set j (id, .row e sz cs' fz)) c → owns i s c := by
    rintro c ⟨p, hp, hc⟩
    obtain ⟨q, hq, he⟩ := hids p hp
    exact ⟨q, hq, by rw [he]; exact hc⟩
  refine ⟨⟨fun b1 o v hv => ?_, fun p hp => ?_, ?_, h.fin⟩, ⟨by simp, by simp [World.setRow], by simp [World.setRow], by simp, Mu.le_refl _, Io.le_refl _, fun c hc hno => ?_, fun c _ _ _ => rfl, fun p hp => .inl (hids p hp), fun c hc => .inl (howns c hc)⟩⟩
  · have h0 := h.mu _ _ _ hv
    refine ⟨?_, h0.2⟩
    by_cases e1 : b1 = b
    · subst e1
      have hlt : o < fz := by
        rcases Nat.lt_or_ge o fz with h | h
        · exact h
        · rw [g9 o h] at hv; cases hv
      rw [cell_setRow_same w b1 o vs vs' e (0, 0) hvs, hold o hlt, ← g8 o hlt]
      exact hv
    · rw [cell_setRow_other w b vs' _ e1]
      exact h0.1
  · obtain ⟨k, hk⟩ := List.getElem?_of_mem hp
    rw [List.getElem?_set] at hk
    split at hk
    · rename_i e1; subst e1
      cases hk
      refine .inr ⟨b, cap, vs', hi, setRow_heap w b vs vs' e (0, 0) hvs, hsz, g3, hlen, hfz, hone, hvl, fun o ho => by rw [hold o ho]; exact g8 o ho, g9⟩
    · rename_i hne
      have hmem := List.mem_of_getElem? hk
      refine (h.obj p hmem).mono_block (Mu.le_refl _) (Io.le_refl _) (fun c hc => ?_) (fun _ _ _ => rfl)
      refine setRow_other w b c vs' ?_
      intro e1
      subst e1
      have hklt : k < s.length := (List.getElem?_eq_some_iff.1 hk).1
      have hkv : s[k] = p := (List.getElem?_eq_some_iff.1 hk).2
      have hap := List.pairwise_iff_getElem.1 h.apart
      rcases Nat.lt_or_gt_of_ne hne with hlt | hlt
      · have := hap j k hjlt hklt hlt
        rw [hjv, hkv] at this
        exact this.2 c hblk hc
      · have := hap k j hklt hjlt hlt
        rw [hjv, hkv] at this
        exact this.2 c hc hblk
  · have hmap : (s.set j (id, Ob.row e sz cs' fz)).map (·.1) = s.map (·.1) := by
      rw [List.map_set]
      have : (s.map (·.1))[j]? = some id := by simp [hj]
      exact List.ext_getElem? fun k => by
        rw [List.getElem?_set]
        split
        · rename_i e1; subst e1; simp [hjlt, hjv]
        · rfl
    have key : ∀ (l : Store), l.Pairwise (Go.Am.apart i) ↔ (l.map (·.1)).Pairwise (fun p q => p ≠ q ∧ ∀ b, blk i p = some b → blk i q ≠ some b) := by
      intro l; rw [List.pairwise_map]; rfl
    rw [key, hmap, ← key]
    exact h.apart
  · refine setRow_other w b c vs' ?_
    intro e1
    subst e1
    exact hno ⟨_, List.mem_of_getElem? hj, hblk⟩

theorem aop_unit {o : Oper} {s' : Store}
    (h : ∀ (a : Act) (w : World) (m : Mu) (i : Io), Rel w m i s → (∀ k, Operand.tmp k ∈ o.op.operands → VR m i (t k) (a.tmps.getD k undef)) →
      ∃ w' m' i', (execOp a.eval o).run P w = .ok .skip w' ∧ Rel w' m' i' s' ∧ Step w m i s w' m' i' s') :
    AOp P o t s (fun x y => x = .any ∧ y = s') := by
  intro a w m i hr ho K Q hk
  obtain ⟨w', m', i', h1, h3, h4⟩ := h a w m i hr ho
  unfold Oper.wp
  rw [h1]
  exact hk undef w' .any s' m' i' ⟨rfl, rfl⟩ trivial h3 h4

theorem run_storeAt_row {w : World} {ty b off : Nat} {e : Nat} {vs : Array Value} {v : Value} (h : TTok P T) {g : Bool} {n : Nat} (hl : T.lay ty = some (g, n)) (hvs : w.heap[b]? = some (.cells vs e (0, 0)))
    (hn : v.cells.size = n) (hle : off + n ≤ vs.size) (h1 : Ones v.cells.toList) :
    (Instr.storeAt ty (.pointer (some ⟨b, off, none⟩)) v).run P w = .ok () (w.setRow b (vs.toList.take off ++ v.cells.toList ++ vs.toList.drop (off + n)).toArray) := by
  obtain ⟨r1, r2⟩ := run_isAgg' h hl w
  have hs := run_storeCells_at (P := P) b off e v.cells.toList 0 vs w hvs (by simp; omega) h1
  simp only [Instr.storeAt, Instr.sureAddr, storeVar, Sem.run_bind, Sem.run_pure, Result.andThen_ok, r2]
  rw [if_neg (by rw [hn]; simp)]
  rw [hs]
  simp [hn]

/-- A store into an object of ours, behind what is sealed of it. -/
theorem aop_storeRef (h : TTok P T) {o : Oper} {ty : Nat} {x y : Operand} {id off j e sz fz : Nat} {cs ds : List AV} (ho : o.op = .store ty x y) (hx : ev t x = .ref id off) (hj : s[j]? = some (id, .row e sz cs fz))
    (hl : (match T.lay ty with | some (true, n) => (match ev t y with | .agg ds => if Nat.beq ds.length n then some ds else none | _ => none) | some (false, _) => (if (ev t y).scalar then some [ev t y] else none) | none => none) = some ds)
    (hb : (Nat.ble fz off && Nat.ble (off + ds.length) cs.length) = true) :
    AOp P o t s (fun v z => v = .any ∧ z = s.set j (id, .row e sz (cs.take off ++ ds ++ cs.drop (off + ds.length)) fz)) := by
  refine aop_unit fun a w m i hr hop => ?_
  rw [ho] at hop
  have v1 := opd (x := x) hop (by simp [Op.operands])
  have u1 := opd (x := y) hop (by simp [Op.operands])
  rw [hx] at v1
  obtain ⟨b, cap, hi, v2⟩ := v1
  obtain ⟨vs, g1, g2, g3, g4, g5, g6, g7, g8, g9⟩ := hr.row hj hi
  simp only [Bool.and_eq_true] at hb
  have hb1 : fz ≤ off := Nat.le_of_ble_eq_true hb.1
  have hb2 : off + ds.length ≤ cs.length := Nat.le_of_ble_eq_true hb.2
  have key : ∃ g, T.lay ty = some (g, ds.length) ∧ VL m i ds (a.eval y).cells.toList ∧ Ones (a.eval y).cells.toList := by
    split at hl
    · rename_i n hlay
      split at hl
      · rename_i ds' hds
        split at hl
        · rename_i hbeq
          cases hl
          have := Nat.eq_of_beq_eq_true hbeq
          subst this
          rw [hds] at u1
          exact ⟨true, hlay, u1.cells (.inr ⟨_, rfl⟩)⟩
        · cases hl
      · cases hl
    · rename_i n hlay
      split at hl
      · rename_i hsc
        cases hl
        have hn := (TT.lay_inv hlay).choose_spec.2.2.2 rfl
        subst hn
        obtain ⟨q1, q2, q3⟩ := u1.scalar hsc
        have := u1.cells (.inl hsc)
        rw [q3] at this
        exact ⟨false, hlay, this⟩
      · cases hl
    · cases hl
  obtain ⟨g, hlay, k1, k2⟩ := key
  have hlen := k1.eq_len
  have hrun := run_storeAt_row (P := P) (v := a.eval y) (off := off) h hlay g1 (by simpa using hlen.symm) (by omega) k2
  have htl : (vs.toList.take off ++ (a.eval y).cells.toList ++ vs.toList.drop (off + ds.length)).length = vs.size := by
    simp only [List.length_append, List.length_take, List.length_drop, Array.length_toList, Array.length_toList] at *
    omega
  have hcl : (cs.take off ++ ds ++ cs.drop (off + ds.length)).length = cs.length := by
    simp only [List.length_append, List.length_take, List.length_drop]; omega
  have htake : (vs.toList.take off ++ (a.eval y).cells.toList ++ vs.toList.drop (off + ds.length)).take cs.length =
      (vs.toList.take cs.length).take off ++ (a.eval y).cells.toList ++ (vs.toList.take cs.length).drop (off + ds.length) := by
    rw [List.take_append, List.take_append]
    have l1 : (vs.toList.take off).length = off := by simp; omega
    have l2 : (a.eval y).cells.toList.length = ds.length := hlen.symm
    rw [List.length_append, l1, l2, List.take_of_length_le (by omega), List.take_of_length_le (l := (a.eval y).cells.toList) (by omega)]
    congr 1
    · congr 1
      rw [List.take_take, Nat.min_eq_left (by omega)]
    · rw [List.drop_take]
  obtain ⟨r1, r2⟩ := hr.change hj hi (vs' := (vs.toList.take off ++ (a.eval y).cells.toList ++ vs.toList.drop (off + ds.length)).toArray) (cs' := cs.take off ++ ds ++ cs.drop (off + ds.length))
    (by rw [← g2]; simpa using htl) (by rw [hcl]; simp only [List.size_toArray, htl]; exact g4) (by rw [hcl]; exact g5)
    (by
      rw [hcl]
      simp only [htake]
      intro z hz
      rcases List.mem_append.1 hz with hz | hz
      · rcases List.mem_append.1 hz with hz | hz
        · exact g6 z (List.mem_of_mem_take hz)
        · exact k2 z hz
      · exact g6 z (List.mem_of_mem_drop hz))
    (by
      rw [hcl]
      simp only [htake]
      exact ((g7.take _).append k1).append (g7.drop _))
    g1
    (by
      intro o ho
      have hlt : o < off := by omega
      simp only [List.getElem?_toArray, List.append_assoc]
      rw [List.getElem?_append_left (by simp; omega), List.getElem?_take, if_pos hlt]
      simp)
  exact ⟨_, m, i, by simp only [execOp, ho, v2, Sem.run_bind, hrun]; rfl, r1, r2⟩
end
end Go.Am
