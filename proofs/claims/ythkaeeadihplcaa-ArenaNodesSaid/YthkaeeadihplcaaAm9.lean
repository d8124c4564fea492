/- The abstract machine, part 9: new objects; sealing; rows that grow; calls; texts joined. -/
import Derived.Test.YthkaeeadihplcaaAm8
namespace Go.Am
open Go
section
variable {P : Program} {T : TT} {n : Nat} {t : Tau} {s : Store}

def Io.with (i : Io) (k : Nat) (x : Option (Nat × Nat)) : Io := fun j => if j = k then some x else i j
theorem Io.le_with {i : Io} {k : Nat} {x} (h : i k = none) : i.le (i.with k x) := by
  intro j y hj
  unfold Io.with
  by_cases e : j = k
  · subst e; rw [h] at hj; cases hj
  · rw [if_neg e]; exact hj
theorem Io.with_self {i : Io} {k : Nat} {x} : i.with k x k = some x := by simp [Io.with]
theorem Io.fin_with {i : Io} {k : Nat} {x} (h : ∃ N, ∀ j, N ≤ j → i j = none) : ∃ N, ∀ j, N ≤ j → i.with k x j = none := by
  obtain ⟨N, hN⟩ := h
  refine ⟨max N (k + 1), fun j hj => ?_⟩
  unfold Io.with
  rw [if_neg (by omega)]
  exact hN j (by omega)

/-- A new object in a new block; its first 'fz' cells are sealed. -/
theorem Rel.new {w m i} (h : Rel w m i s) (e sz cap : Nat) (vs : Array Value) (cs : List AV) (d fz : Nat) (hsz : vs.size = cap * sz) (hcap : cap ≤ maxLen) (hlen : cs.length ≤ vs.size) (hfz : fz ≤ cs.length)
    (h1 : Ones (vs.toList.take cs.length)) (hvl : VL m i cs (vs.toList.take cs.length)) :
    ∃ k m' i', i k = none ∧ i' k = some (some (w.heap.size, cap)) ∧ Rel ({ (w.alloc (.cells vs e (0, 0))) with drawn := d }) m' i' ((k, .row e sz cs fz) :: s) ∧
      Step w m i s ({ (w.alloc (.cells vs e (0, 0))) with drawn := d }) m' i' ((k, .row e sz cs fz) :: s) := by
  obtain ⟨N, hN⟩ := h.fin
  have hk : i N = none := hN N (Nat.le_refl _)
  have hio := Io.le_with (x := some (w.heap.size, cap)) hk
  have hself : i.with N (some (w.heap.size, cap)) N = some (some (w.heap.size, cap)) := Io.with_self
  have hmu := Mu.le_more h (vs.toList.take fz)
  have hmo : ∀ b, b < w.heap.size → ∀ o, m.more w.heap.size (vs.toList.take fz) b o = m b o := fun b hb o => by unfold Mu.more; rw [if_neg (by omega)]
  have hold : ∀ p ∈ s, p.1 ≠ N := fun p hp e => by
    obtain ⟨x, hx⟩ := (h.obj p hp).id
    rw [e, hk] at hx; cases hx
  have hblk : blk (i.with N (some (w.heap.size, cap))) N = some w.heap.size := by simp [blk, hself]
  have hbold : ∀ p ∈ s, blk (i.with N (some (w.heap.size, cap))) p.1 = blk i p.1 := fun p hp => by
    obtain ⟨x, hx⟩ := (h.obj p hp).id
    exact blk_eq hio hx
  refine ⟨N, m.more w.heap.size (vs.toList.take fz), i.with N (some (w.heap.size, cap)), hk, hself, ⟨fun b o v hv => ?_, fun p hp => ?_, ?_, Io.fin_with h.fin⟩, ⟨rfl, rfl, rfl, by simp, hmu, hio, fun b hb _ => heap_alloc_old w _ hb, fun b hb _ o => hmo b hb o, fun p hp => ?_, fun b hb => ?_⟩⟩
  · show (w.alloc (.cells vs e (0, 0))).cell? ⟨b, o, none⟩ = some v ∧ v.oneCell' = true
    unfold Mu.more at hv
    by_cases e' : b = w.heap.size
    · subst e'
      rw [if_pos rfl] at hv
      rw [World.cell?_alloc_new]
      have hv2 := take_get hv
      refine ⟨by simpa using hv2, ?_⟩
      refine h1 v ?_
      have : (vs.toList.take cs.length)[o]? = some v := by
        rw [List.getElem?_take] at hv ⊢
        split at hv
        · rw [if_pos (by omega)]; exact hv
        · cases hv
      exact List.mem_of_getElem? this
    · rw [if_neg e'] at hv
      have := h.mu _ _ _ hv
      rw [World.cell?_alloc_lt _ _ _ (World.block_lt_of_cell? w _ this.1)]
      exact this
  · rcases List.mem_cons.1 hp with rfl | hp
    · refine .inr ⟨w.heap.size, cap, vs, hself, heap_alloc_new w _, hsz, hcap, hlen, hfz, h1, VL.mono hmu hio _ _ hvl, fun o ho => ?_, fun o ho => ?_⟩
      · unfold Mu.more
        rw [if_pos rfl, List.getElem?_take, if_pos ho]
        simp
      · unfold Mu.more
        rw [if_pos rfl, List.getElem?_take, if_neg (by omega)]
    · exact (h.obj p hp).mono_block hmu hio (fun b hb => heap_alloc_old w _ ((h.obj p hp).lt hb)) (fun b hb o => hmo b ((h.obj p hp).lt hb) o)
  · refine List.pairwise_cons.2 ⟨fun q hq => ⟨fun e => hold q hq e.symm, fun b hb hbq => ?_⟩, ?_⟩
    · rw [hblk] at hb; cases hb
      rw [hbold q hq] at hbq
      have := (h.obj q hq).lt hbq
      omega
    · refine h.apart.imp_of_mem ?_
      intro p q hp hq hpq
      exact ⟨hpq.1, fun b hb => by rw [hbold p hp] at hb; rw [hbold q hq]; exact hpq.2 b hb⟩
  · rcases List.mem_cons.1 hp with rfl | hp
    · exact .inr hk
    · exact .inl ⟨p, hp, rfl⟩
  · obtain ⟨p, hp, e'⟩ := hb
    rcases List.mem_cons.1 hp with rfl | hp
    · rw [hblk] at e'; cases e'; exact .inr (Nat.le_refl _)
    · rw [hbold p hp] at e'; exact .inl ⟨p, hp, e'⟩

/-- A variable of our own. -/
theorem aop_box {o : Oper} {e : Nat} {x : Operand} {cs : List AV} (ho : o.op = .box e x)
    (hc : (match ev t x with | .agg cs => some cs | v => if v.scalar then some [v] else none) = some cs) :
    AOp P o t s (fun v z => ∃ k, v = .ref k 0 ∧ z = (k, .row e cs.length cs 0) :: s) := by
  intro a w m i hr hop K Q hK
  rw [ho] at hop
  have v1 := opd (x := x) hop (by simp [Op.operands])
  have key : VL m i cs (a.eval x).cells.toList ∧ Ones (a.eval x).cells.toList := by
    split at hc
    · rename_i ds hd
      cases hc
      rw [hd] at v1
      exact v1.cells (.inr ⟨_, rfl⟩)
    · split at hc
      · rename_i hsc
        cases hc
        have := v1.cells (.inl hsc)
        rw [(v1.scalar hsc).2.2] at this
        exact this
      · cases hc
  have hlen := key.1.eq_len
  have htake : (a.eval x).cells.toList.take cs.length = (a.eval x).cells.toList := List.take_of_length_le (by omega)
  obtain ⟨k, m', i', h1, h2, h3, h4⟩ := hr.new e cs.length 1 (a.eval x).cells cs w.drawn 0 (by rw [hlen]; simp) (by unfold maxLen; omega) (by rw [hlen]; simp) (Nat.zero_le _) (by rw [htake]; exact key.2) (by rw [htake]; exact key.1)
  unfold Oper.wp
  have hrun : (execOp a.eval o).run P w = .ok (.value (.pointer (some ⟨w.heap.size, 0, none⟩))) (w.alloc (.cells (a.eval x).cells e (0, 0))) := by
    simp [execOp, ho, Instr.box, newVar, newRow]
  rw [hrun]
  exact hK _ _ (.ref k 0) _ m' i' ⟨k, rfl, rfl⟩ ⟨_, _, h2, rfl⟩ h3 h4

theorem aop_alloc (h : TTok P T) {o : Oper} {e : Nat} {zs : List Value} (ho : o.op = .alloc e) (hz : lk T.zero e = some zs) (h1 : zs.all Value.oneCell' = true) :
    AOp P o t s (fun v z => ∃ k, v = .ref k 0 ∧ z = (k, .row e zs.length (zs.map .lit) 0) :: s) := by
  intro a w m i hr hop K Q hK
  obtain ⟨z, r1, r2⟩ := run_zero h hz w
  have hzl : z.cells.size = zs.length := by rw [← r2]; simp
  have htake : z.cells.toList.take (zs.map AV.lit).length = zs := by rw [r2, List.length_map, List.take_length]
  obtain ⟨k, m', i', g1, g2, g3, g4⟩ := hr.new e zs.length 1 z.cells (zs.map .lit) w.drawn 0 (by rw [hzl]; simp) (by unfold maxLen; omega) (by rw [hzl]; simp) (Nat.zero_le _)
    (by rw [htake]; exact fun v hv => List.all_eq_true.1 h1 v hv) (by rw [htake]; exact VL.consts zs)
  unfold Oper.wp
  have hrun : (execOp a.eval o).run P w = .ok (.value (.pointer (some ⟨w.heap.size, 0, none⟩))) (w.alloc (.cells z.cells e (0, 0))) := by
    simp [execOp, ho, Instr.alloc, newVar, newRow, r1]
  rw [hrun]
  exact hK _ _ (.ref k 0) _ m' i' ⟨k, rfl, rfl⟩ ⟨_, _, g2, rfl⟩ g3 g4

/-! ### sealing -/
theorem Rel.frz {w m i} (h : Rel w m i s) {j id e sz : Nat} {cs : List AV} {fz : Nat} (hj : s[j]? = some (id, .row e sz cs fz)) :
    ∃ m', Rel w m' i (s.set j (id, .row e sz cs cs.length)) ∧ Step w m i s w m' i (s.set j (id, .row e sz cs cs.length)) := by
  have hjlt : j < s.length := (List.getElem?_eq_some_iff.1 hj).1
  have hjv : s[j] = (id, .row e sz cs fz) := (List.getElem?_eq_some_iff.1 hj).2
  have hids : ∀ p ∈ s.set j (id, .row e sz cs cs.length), ∃ q ∈ s, q.1 = p.1 := by
    intro p hp
    obtain ⟨k, hk⟩ := List.getElem?_of_mem hp
    rw [List.getElem?_set] at hk
    split at hk
    · cases hk; exact ⟨_, List.mem_of_getElem? hj, rfl⟩
    · exact ⟨p, List.mem_of_getElem? hk, rfl⟩
  have hap : (s.set j (id, Ob.row e sz cs cs.length)).Pairwise (Go.Am.apart i) := by
    have hmap : (s.set j (id, Ob.row e sz cs cs.length)).map (·.1) = s.map (·.1) := by
      rw [List.map_set]
      exact List.ext_getElem? fun k => by
        rw [List.getElem?_set]
        split
        · rename_i e1; subst e1; simp [hjlt, hjv]
        · rfl
    have key : ∀ (l : Store), l.Pairwise (Go.Am.apart i) ↔ (l.map (·.1)).Pairwise (fun p q => p ≠ q ∧ ∀ b, blk i p = some b → blk i q ≠ some b) := by
      intro l; rw [List.pairwise_map]; rfl
    rw [key, hmap, ← key]
    exact h.apart
  have step : ∀ m', m.le m' → (∀ b, ¬ owns i s b → ∀ o, m' b o = m b o) → Step w m i s w m' i (s.set j (id, .row e sz cs cs.length)) := fun m' hm hno =>
    ⟨rfl, rfl, rfl, Nat.le_refl _, hm, Io.le_refl _, fun _ _ _ => rfl, fun b _ hb o => hno b hb o, fun p hp => .inl (hids p hp), fun b ⟨p, hp, e'⟩ => .inl (let ⟨q, hq, e2⟩ := hids p hp; ⟨q, hq, e2 ▸ e'⟩)⟩
  rcases h.obj _ (List.mem_of_getElem? hj) with ⟨g1, g2, g3⟩ | ⟨b, cap, vs, g1, g2, g3, g4, g5, g6, g7, g8, g9, g10⟩
  · subst g2
    subst g3
    refine ⟨m, ?_, step m (Mu.le_refl _) (fun _ _ _ => rfl)⟩
    have : s.set j (id, Ob.row e sz [] ([] : List AV).length) = s := by
      apply List.ext_getElem?
      intro k
      rw [List.getElem?_set]
      split
      · rename_i e1; subst e1; rw [hj]; simp
      · rfl
    rw [this]; exact h
  · have hblk : blk i id = some b := by simp [blk, g1]
    let m' : Mu := fun b' o => if b' = b ∧ o < cs.length then vs[o]? else m b' o
    have hle : m.le m' := by
      intro b' o v hv
      show (if b' = b ∧ o < cs.length then vs[o]? else m b' o) = some v
      split
      · rename_i hc
        obtain ⟨rfl, ho⟩ := hc
        rcases Nat.lt_or_ge o fz with h' | h'
        · rw [← g9 o h']; exact hv
        · rw [g10 o h'] at hv; cases hv
      · exact hv
    have hno : ∀ b', b' ≠ b → ∀ o, m' b' o = m b' o := fun b' hb o => by show (if b' = b ∧ o < cs.length then vs[o]? else m b' o) = _; rw [if_neg (fun hc => hb hc.1)]
    refine ⟨m', ⟨fun b' o v hv => ?_, fun p hp => ?_, hap, h.fin⟩, step m' hle fun b' hb o => hno b' (fun e' => hb (by subst e'; exact ⟨_, List.mem_of_getElem? hj, hblk⟩)) o⟩
    · have hv' : (if b' = b ∧ o < cs.length then vs[o]? else m b' o) = some v := hv
      split at hv'
      · rename_i hc
        obtain ⟨rfl, ho⟩ := hc
        refine ⟨by rw [cell_of_row w b' o vs e (0, 0) g2]; exact hv', g7 v ?_⟩
        have : (vs.toList.take cs.length)[o]? = some v := by rw [List.getElem?_take, if_pos ho]; simpa using hv'
        exact List.mem_of_getElem? this
      · exact h.mu _ _ _ hv'
    · obtain ⟨k, hk⟩ := List.getElem?_of_mem hp
      rw [List.getElem?_set] at hk
      split at hk
      · cases hk
        refine .inr ⟨b, cap, vs, g1, g2, g3, g4, g5, Nat.le_refl _, g7, VL.mono hle (Io.le_refl _) _ _ g8, fun o ho => ?_, fun o ho => ?_⟩
        · show (if b = b ∧ o < cs.length then vs[o]? else m b o) = _
          rw [if_pos ⟨rfl, ho⟩]
        · show (if b = b ∧ o < cs.length then vs[o]? else m b o) = _
          rw [if_neg (fun hc => absurd hc.2 (by omega))]
          exact g10 o (by omega)
      · rename_i hne
        have hmem := List.mem_of_getElem? hk
        refine (h.obj p hmem).mono_block hle (Io.le_refl _) (fun _ _ => rfl) (fun c hc o => hno c ?_ o)
        intro e1
        subst e1
        have hklt : k < s.length := (List.getElem?_eq_some_iff.1 hk).1
        have hkv : s[k] = p := (List.getElem?_eq_some_iff.1 hk).2
        have hapw := List.pairwise_iff_getElem.1 h.apart
        rcases Nat.lt_or_gt_of_ne hne with hlt | hlt
        · have := hapw j k hjlt hklt hlt
          rw [hjv, hkv] at this
          exact this.2 c hblk hc
        · have := hapw k j hklt hjlt hlt
          rw [hjv, hkv] at this
          exact this.2 c hc hblk

theorem Shift.frz {j id e sz : Nat} {cs : List AV} {fz : Nat} (hj : s[j]? = some (id, .row e sz cs fz)) : Shift t s t (s.set j (id, .row e sz cs cs.length)) := by
  intro w m i a h1 h2
  obtain ⟨m', h3, h4⟩ := h1.frz hj
  exact ⟨m', i, h3, h2.mono h4.mu h4.io, h4⟩

theorem Rel.sealed {w m i} (h : Rel w m i s) {j id e sz : Nat} {cs : List AV} (hj : s[j]? = some (id, .row e sz cs cs.length)) {b cap : Nat} (hi : i id = some (some (b, cap))) : VC m i cs b 0 ∧ cap ≤ maxLen ∧ cs.length ≤ cap * sz := by
  obtain ⟨vs, g1, g2, g3, g4, g5, g6, g7, g8, g9⟩ := h.row hj hi
  refine ⟨VC.of_list g7 fun k v hk => ?_, g3, by omega⟩
  have hlt : k < cs.length := by
    have := (List.getElem?_eq_some_iff.1 hk).1
    rw [List.length_take] at this; omega
  rw [Nat.zero_add, g8 k hlt]
  have := take_get hk
  simpa using this

theorem View.ref {j id e sz off : Nat} {cs : List AV} (hj : s[j]? = some (id, .row e sz cs cs.length)) : View s (.ref id off) (.ptr (cs.drop off)) := by
  intro w m i v hr ⟨b, c, h1, h2⟩
  have := ((hr.sealed hj h1).1).drop off
  exact ⟨b, off, h2, by simpa using this⟩

theorem View.row {j id e sz n : Nat} {cs : List AV} (hj : s[j]? = some (id, .row e sz cs cs.length)) (hn : n = 0 → cs = []) : View s (.row id n) (.slc cs n false) := by
  intro w m i v hr hv
  rcases hv with ⟨h1, h2, h3⟩ | ⟨b, cap, h1, h2, h3⟩
  · exact .inl ⟨h2, hn h2, none, h3⟩
  · obtain ⟨q1, q2, q3⟩ := hr.sealed hj h1
    exact .inr ⟨b, 0, cap, h3, h2, q2, fun h => (by cases h), q1⟩

theorem Shift.view (k : Nat) {x y : AV} (hx : t k = x) (h : View s x y) : Shift t s (t.put (some k) y) s := by
  intro w m i a h1 h2
  refine ⟨m, i, h1, fun j => ?_, Step.refl _ _ _ _⟩
  simp only [Tau.put]
  by_cases e : j = k
  · subst e; rw [nbeq_self, if_pos rfl]; exact h _ _ _ _ h1 (hx ▸ h2 j)
  · rw [nbeq_ne e, if_neg (by simp)]; exact h2 j

theorem VL.set_av {m : Mu} {i : Io} {c : AV} : ∀ {cs : List AV} {vs : List Value} (k : Nat), VL m i cs vs → (∀ v, vs[k]? = some v → VR m i c v) → VL m i (cs.set k c) vs
  | [], _, _, h, _ => h
  | c0 :: cs, _, 0, ⟨v0, vs, h1, h2, h3⟩, hc => by subst h1; exact ⟨v0, vs, rfl, hc v0 rfl, h3⟩
  | c0 :: cs, _, k + 1, ⟨v0, vs, h1, h2, h3⟩, hc => by subst h1; exact ⟨v0, vs, rfl, h2, VL.set_av k h3 fun v hv => hc v (by simpa using hv)⟩

/-- A cell of an object may be told otherwise, too. -/
theorem Shift.cell {j id e sz : Nat} {cs : List AV} {fz : Nat} (k : Nat) {x y : AV} (hj : s[j]? = some (id, .row e sz cs fz)) (hx : cs[k]? = some x) (h : View s x y) :
    Shift t s t (s.set j (id, .row e sz (cs.set k y) fz)) := by
  intro w m i a h1 h2
  have hjlt : j < s.length := (List.getElem?_eq_some_iff.1 hj).1
  have hjv : s[j] = (id, .row e sz cs fz) := (List.getElem?_eq_some_iff.1 hj).2
  have hids : ∀ p ∈ s.set j (id, Ob.row e sz (cs.set k y) fz), ∃ q ∈ s, q.1 = p.1 := by
    intro p hp
    obtain ⟨l, hl⟩ := List.getElem?_of_mem hp
    rw [List.getElem?_set] at hl
    split at hl
    · cases hl; exact ⟨_, List.mem_of_getElem? hj, rfl⟩
    · exact ⟨p, List.mem_of_getElem? hl, rfl⟩
  refine ⟨m, i, ⟨h1.mu, fun p hp => ?_, ?_, h1.fin⟩, h2, ⟨rfl, rfl, rfl, Nat.le_refl _, Mu.le_refl _, Io.le_refl _, fun _ _ _ => rfl, fun _ _ _ _ => rfl, fun p hp => .inl (hids p hp), fun b ⟨p, hp, e'⟩ => .inl (let ⟨q, hq, e2⟩ := hids p hp; ⟨q, hq, e2 ▸ e'⟩)⟩⟩
  · obtain ⟨l, hl⟩ := List.getElem?_of_mem hp
    rw [List.getElem?_set] at hl
    split at hl
    · cases hl
      rcases h1.obj _ (List.mem_of_getElem? hj) with ⟨g1, g2, g3⟩ | ⟨b, cap, vs, g1, g2, g3, g4, g5, g6, g7, g8, g9, g10⟩
      · subst g2; simp at hx
      · refine .inr ⟨b, cap, vs, g1, g2, g3, g4, by simpa using g5, by simpa using g6, by simpa using g7, ?_, g9, g10⟩
        simp only [List.length_set]
        refine VL.set_av k g8 fun v hv => ?_
        obtain ⟨u, q1, q2⟩ := g8.get k x hx
        rw [hv] at q1
        cases q1
        exact h _ _ _ _ h1 q2
    · exact h1.obj p (List.mem_of_getElem? hl)
  · have hmap : (s.set j (id, Ob.row e sz (cs.set k y) fz)).map (·.1) = s.map (·.1) := by
      rw [List.map_set]
      exact List.ext_getElem? fun l => by
        rw [List.getElem?_set]
        split
        · rename_i e1; subst e1; simp [hjlt, hjv]
        · rfl
    have key : ∀ (l : Store), l.Pairwise (Go.Am.apart i) ↔ (l.map (·.1)).Pairwise (fun p q => p ≠ q ∧ ∀ b, blk i p = some b → blk i q ≠ some b) := by
      intro l; rw [List.pairwise_map]; rfl
    rw [key, hmap, ← key]
    exact h1.apart

/-- Nothing yet: a row that will grow. -/
theorem Rel.adopt {w m i} (h : Rel w m i s) (e sz : Nat) : ∃ k i', i k = none ∧ i' k = some none ∧ Rel w m i' ((k, .row e sz [] 0) :: s) ∧ Step w m i s w m i' ((k, .row e sz [] 0) :: s) := by
  obtain ⟨N, hN⟩ := h.fin
  have hk : i N = none := hN N (Nat.le_refl _)
  have hio := Io.le_with (x := none) hk
  have hself : i.with N none N = some none := Io.with_self
  have hbN : blk (i.with N none) N = none := by simp [blk, hself]
  have hold : ∀ p ∈ s, p.1 ≠ N := fun p hp e => by
    obtain ⟨x, hx⟩ := (h.obj p hp).id
    rw [e, hk] at hx; cases hx
  have hbold : ∀ p ∈ s, blk (i.with N none) p.1 = blk i p.1 := fun p hp => by
    obtain ⟨x, hx⟩ := (h.obj p hp).id
    exact blk_eq hio hx
  refine ⟨N, i.with N none, hk, hself, ⟨h.mu, fun p hp => ?_, ?_, Io.fin_with h.fin⟩, ⟨rfl, rfl, rfl, Nat.le_refl _, Mu.le_refl _, hio, fun _ _ _ => rfl, fun _ _ _ _ => rfl, fun p hp => ?_, fun b hb => ?_⟩⟩
  · rcases List.mem_cons.1 hp with rfl | hp
    · exact .inl ⟨hself, rfl, rfl⟩
    · exact (h.obj p hp).mono_block (Mu.le_refl _) hio (fun _ _ => rfl) (fun _ _ _ => rfl)
  · refine List.pairwise_cons.2 ⟨fun q hq => ⟨fun e => hold q hq e.symm, fun b hb => by rw [hbN] at hb; cases hb⟩, ?_⟩
    refine h.apart.imp_of_mem ?_
    intro p q hp hq hpq
    exact ⟨hpq.1, fun b hb => by rw [hbold p hp] at hb; rw [hbold q hq]; exact hpq.2 b hb⟩
  · rcases List.mem_cons.1 hp with rfl | hp
    · exact .inr hk
    · exact .inl ⟨p, hp, rfl⟩
  · obtain ⟨p, hp, e'⟩ := hb
    rcases List.mem_cons.1 hp with rfl | hp
    · rw [hbN] at e'; cases e'
    · rw [hbold p hp] at e'; exact .inl ⟨p, hp, e'⟩

theorem aw_adopt {c : Code} {Q : APost} (k e sz : Nat) (hx : t k = .lit (.slice none 0 0)) (h : ∀ id, AWp P n c Q (t.put (some k) (.row id 0)) ((id, .row e sz [] 0) :: s)) : AWp P n c Q t s := by
  intro a w m i h1 h2 h3 h4
  obtain ⟨id, i', g1, g2, g3, g4⟩ := h1.adopt e sz
  refine wp_mono (h id a w m i' g3 (fun j => ?_) h3 h4) fun e a' w' hc => Conc.after g4 hc
  simp only [Tau.put]
  by_cases e : j = k
  · subst e
    rw [nbeq_self, if_pos rfl]
    have := h2 j
    rw [hx] at this
    exact .inl ⟨g2, rfl, this⟩
  · rw [nbeq_ne e, if_neg (by simp)]; exact VR.mono (Mu.le_refl _) g4.io _ _ (h2 j)

/-! ### calls -/
def argAVs (t : Tau) (args : List Operand) : List AV := args.map (ev t)

theorem run_callFunc {fid : Nat} {fn : Func} (hfn : P.funcs[fid]? = some fn) (hb : fn.body.isNone = false) (hnm : (fn.name == "runtime.NumGoroutine") = false) (args : Array Value) (w : World) :
    (callFunc fid args).run P w = .ok (.enter fid args) w := by
  unfold callFunc
  rw [Sem.run_bind, run_program]
  simp only [Result.andThen_ok, hfn, hnm, hb, Bool.false_eq_true, if_false]
  rfl

/-- A list of values, each told otherwise, where the store is s. -/
def VW (s : Store) : List AV → List AV → Prop
  | [], l => l = []
  | x :: xs, l => ∃ y ys, l = y :: ys ∧ View s x y ∧ VW s xs ys
theorem VW.nil : VW s [] [] := rfl
theorem VW.cons {x y : AV} {xs ys : List AV} (h : View s x y) (k : VW s xs ys) : VW s (x :: xs) (y :: ys) := ⟨y, ys, rfl, h, k⟩
theorem VW.weak {x y : AV} {xs ys : List AV} (h : Weak x y) (k : VW s xs ys) : VW s (x :: xs) (y :: ys) := ⟨y, ys, rfl, View.of_weak h, k⟩
theorem VW.same {x : AV} {xs ys : List AV} (k : VW s xs ys) : VW s (x :: xs) (x :: ys) := ⟨x, ys, rfl, View.of_weak (Weak.refl x), k⟩
theorem VW.refl : ∀ l, VW s l l
  | [] => rfl
  | x :: xs => ⟨x, xs, rfl, View.of_weak (Weak.refl x), VW.refl xs⟩
theorem VW.vl {w m i} (hr : Rel w m i s) : ∀ {xs ys : List AV} {vs : List Value}, VW s xs ys → VL m i xs vs → VL m i ys vs
  | [], _, _, h, k => by rw [h]; exact k
  | x :: xs, _, vs, ⟨y, ys, h1, h2, h3⟩, ⟨v, vs', k1, k2, k3⟩ => by subst h1; exact ⟨v, vs', k1, h2 _ _ _ _ hr k2, VW.vl hr h3 k3⟩

theorem View.tup {xs ys : List AV} (h : VW s xs ys) : View s (.tup xs) (.tup ys) := fun _ _ _ _ hr ⟨vs, h1, h2⟩ => ⟨vs, h1, h.vl hr h2⟩

theorem aop_call {o : Oper} {f : Operand} {args : Array Operand} {tys : Array TypeId} {fid : Nat} {caps first : List AV} {xs args' : List AV} {sm r : Store} {Q : AV → Store → Prop} {fn : Func}
    (ho : o.op = .call ⟨.value f, args, tys⟩) (hf : ev t f = .fn (.func fid) first caps) (hfn : P.funcs[fid]? = some fn) (hb : fn.body.isNone = false) (hnm : (fn.name == "runtime.NumGoroutine") = false)
    (hc : ACalls P fid args' sm Q) (hxs : first ++ argAVs t args.toList ++ caps = xs) (hw : VW s xs args') (hp : s.Perm (sm ++ r)) :
    AOp P o t s (fun v z => ∃ z1, Q v z1 ∧ z = z1 ++ r) := by
  intro a w m i hr hop K Q' hK
  rw [ho] at hop
  have v1 := opd (x := f) hop (by simp [Op.operands, Call.operands])
  rw [hf] at v1
  obtain ⟨fs, cs, e1, e2, e3⟩ := v1
  have hargs : VL m i (argAVs t args.toList) (args.toList.map a.eval) := VL.map_ev _ fun k hk => hop k (by simp [Op.operands, Call.operands]; exact .inr (by simpa using hk))
  have hall : VL m i args' (fs ++ args.toList.map a.eval ++ cs) := hw.vl hr (hxs ▸ (e2.append hargs).append e3)
  unfold Oper.wp
  have hrun : (execOp a.eval o).run P w = .ok (.enter fid (fs ++ args.toList.map a.eval ++ cs).toArray) w := by
    have harr : fs.toArray ++ Array.map a.eval args ++ cs.toArray = (fs ++ args.toList.map a.eval ++ cs).toArray := by
      apply Array.toList_inj.1; simp
    rw [← harr]
    simp only [execOp, ho, resolve, e1, Deferred.ofValue, invoke, Sem.run_bind, Sem.run_pure, Result.andThen_ok, run_callFunc hfn hb hnm]
  rw [hrun]
  refine (hc.frame hp w m i _ hr hall).mono ?_
  rintro e w' ⟨v, av, s', m', i', rfl, q, hv, hr', hst⟩
  exact hK v w' av s' m' i' q hv hr' hst

/-! ### texts joined -/
theorem aop_strcat {o : Oper} {ty yt : Nat} {x y : Operand} {l r : List UInt8} (ho : o.op = .binOp .add ty x y yt) (hx : ev t x = .s l) (hy : ev t y = .s r) (hb : l.length + r.length ≤ 9223372036854775807) :
    AOp P o t s (fun v z => v = .s (l ++ r) ∧ z = s) := by
  refine aop_val fun a w m i hr hop => ?_
  rw [ho] at hop
  have v1 := opd (x := x) hop (by simp [Op.operands])
  have v2 := opd (x := y) hop (by simp [Op.operands])
  rw [hx] at v1; rw [hy] at v2
  have v1' : a.eval x = .string ⟨l.toArray⟩ := v1
  have v2' : a.eval y = .string ⟨r.toArray⟩ := v2
  refine ⟨.string (⟨l.toArray⟩ ++ ⟨r.toArray⟩), ?_, ?_⟩
  · have := run_string_add_sum (P := P) (w := w) ⟨l.toArray⟩ ⟨r.toArray⟩ (by simpa [ByteArray.size] using hb)
    simp only [execOp, ho, v1', v2', Sem.run_bind, run_eqGuard (show ∀ cs, Value.string ⟨l.toArray⟩ ≠ .agg cs from by simp) (by simp), Result.andThen_ok, binOp_string_add, this]
    rfl
  · show Value.string _ = Value.string _
    congr 1
end
end Go.Am
