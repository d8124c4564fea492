/- The abstract machine, part 7: regions in the order of the text: many plain operations at once; one operation. -/
import Derived.Test.YthkaeeadihplcaaAm6
namespace Go.Am
open Go

/-- Does the guard say yes? (none: not known) -/
def gd (ops : Array Oper) (t : Tau) (o : Oper) : Option Bool :=
  match o.guard with
  | none => some true
  | some (j, want) => match (ops[j]?).bind (·.dst) with
    | none => none
    | some d => match t d with
      | .lit (.bool b) => some (b == want)
      | .lit (.tuple _) => some false
      | _ => none

def prun (T : TT) (n : Nat) (ops : Array Oper) : List Oper → Tau → Option Tau
  | [], t => some t
  | o :: l, t =>
    match inB o.dst n with
    | false => none
    | true => match gd ops t o with
      | none => none
      | some false => prun T n ops l (t.put o.dst (.lit undef))
      | some true => match pop T t o.op with
        | none => none
        | some v => prun T n ops l (t.put o.dst v)

def tauOf (live : List (Nat × AV)) : Tau := fun k => (lk live k).getD .any

def look (r : Option Tau) (ks : List Nat) : Option (List AV) := r.map fun t => ks.map t

section
variable {P : Program} {T : TT} {n : Nat} {t : Tau} {s : Store}

theorem gd_wanted {ops : Array Oper} {o : Oper} {b : Bool} (hg : gd ops t o = some b) {m : Mu} {i : Io} {a : Act} (ht : TR m i t a) : Region.wanted o (yielded ops a.tmps) = b := by
  unfold gd at hg
  unfold Region.wanted
  split at hg
  · rename_i h; rw [h]; cases hg; rfl
  · rename_i j want h
    rw [h]
    split at hg
    · cases hg
    · rename_i d hd
      split at hg
      · rename_i c hc
        have hgc : b = (c == want) := by cases hg; rfl
        subst hgc
        have h1 := ht d
        rw [hc] at h1
        have h2 : a.tmps.getD d undef = .bool c := h1
        have h3 : a.tmps[d]? = some (.bool c) := by
          rw [Array.getD_eq_getD_getElem?] at h2
          cases he : a.tmps[d]? with
          | none => rw [he] at h2; simp [undef] at h2
          | some v => rw [he] at h2; simp at h2; rw [h2]
        simp only [yielded, hd, Option.bind_some, h3]
        cases c <;> cases want <;> rfl
      · rename_i c hc
        cases hg
        have h1 := ht d
        rw [hc] at h1
        have h2 : a.tmps.getD d undef = .tuple c := h1
        have h3 : a.tmps[d]? = none ∨ a.tmps[d]? = some (.tuple c) := by
          rw [Array.getD_eq_getD_getElem?] at h2
          cases he : a.tmps[d]? with
          | none => exact .inl rfl
          | some v => rw [he] at h2; simp at h2; rw [h2]; exact .inr rfl
        simp only [yielded, hd, Option.bind_some]
        rcases h3 with h3 | h3 <;> rw [h3] <;> rfl
      · cases hg

theorem ao_batch_aux (h : TTok P T) {ops : Array Oper} {l2 : List Oper} {Q : Tau → Store → Prop} : ∀ (l1 : List Oper) (t t' : Tau), prun T n ops l1 t = some t' →
    AOps P n ops l2 Q t' s → AOps P n ops (l1 ++ l2) Q t s
  | [], t, t', hp, k => by cases hp; exact k
  | o :: l1, t, t', hp, k => by
    simp only [prun] at hp
    split at hp
    · cases hp
    · rename_i hd
      split at hp
      · cases hp
      · rename_i hg
        intro a w m i h1 h2 h3 h4 w0 m0 i0 s0 Q' hq hs
        show wpList P ops _ (o :: (l1 ++ l2)) a w
        unfold wpList
        rw [if_neg (by rw [gd_wanted hg h2]; simp)]
        exact ao_batch_aux h l1 _ t' hp k _ w m i h1 (h2.put (h3 ▸ inB_lt hd) rfl) (size_put.trans h3) (defers_put.trans h4) w0 m0 i0 s0 Q' hq hs
      · rename_i hg
        split at hp
        · cases hp
        · rename_i v hv
          intro a w m i h1 h2 h3 h4 w0 m0 i0 s0 Q' hq hs
          show wpList P ops _ (o :: (l1 ++ l2)) a w
          unfold wpList
          rw [if_pos (gd_wanted hg h2)]
          refine .inl (pop_sound h hv a w m i h1 (fun k _ => h2 k) _ _ ?_)
          rintro u w' av s' m' i' ⟨q1, q2⟩ hu hr hst
          rw [q1] at hu
          rw [q2] at hr hst
          exact ao_batch_aux h l1 _ t' hp k _ w' m' i' hr ((h2.mono hst.mu hst.io).put (h3 ▸ inB_lt hd) hu) (size_put.trans h3) (defers_put.trans h4) w0 m0 i0 s0 Q' hq (hs.trans hst)

theorem TR.sub {m : Mu} {i : Io} {t t' : Tau} {a : Act} (h : TR m i t a) (hs : ∀ k, t' k = .any ∨ t' k = t k) : TR m i t' a := by
  intro k
  rcases hs k with e | e
  · rw [e]; trivial
  · rw [e]; exact h k

theorem tauOf_sub {t : Tau} : ∀ (live : List (Nat × AV)), (live.map (·.1)).map t = live.map (·.2) → ∀ k, tauOf live k = .any ∨ tauOf live k = t k
  | [], _, k => .inl rfl
  | (j, v) :: l, h, k => by
    simp only [List.map_cons, List.cons.injEq] at h
    unfold tauOf lk
    by_cases e : k = j
    · subst e; rw [nbeq_self]; exact .inr h.1.symm
    · rw [nbeq_ne e]; exact tauOf_sub l h.2 k

/-- A region's operations from place 'j' on. -/
def AAt (P : Program) (n : Nat) (ops : Array Oper) (j : Nat) (Q : Tau → Store → Prop) (t : Tau) (s : Store) : Prop := AOps P n ops (ops.toList.drop j) Q t s

theorem aw_reg {id : Nat} {ops : Array Oper} {Q : APost} (h : AAt P n ops 0 (Q .normal) t s) : AWp P n (.region id ops false) Q t s := by
  intro a w m i h1 h2 h3 h4
  exact wp_region_list (h a w m i h1 h2 h3 h4 w m i s Q (fun _ _ h => h) (Step.refl _ _ _ _))

/-- Plain operations from place j to place j'. What is live behind them is told. -/
theorem at_run (h : TTok P T) {ops : Array Oper} {j : Nat} (j' : Nat) {Q : Tau → Store → Prop} (live : List (Nat × AV)) (hj : Nat.ble j j' = true)
    (hp : look (prun T n ops ((ops.toList.drop j).take (j' - j)) t) (live.map (·.1)) = some (live.map (·.2))) (k : AAt P n ops j' Q (tauOf live) s) : AAt P n ops j Q t s := by
  have hj' : j ≤ j' := Nat.le_of_ble_eq_true hj
  unfold AAt
  cases hr : prun T n ops ((ops.toList.drop j).take (j' - j)) t with
  | none => rw [hr] at hp; simp [look] at hp
  | some t' =>
    rw [hr] at hp
    simp only [look, Option.map_some, Option.some.injEq] at hp
    have hd : ops.toList.drop j = (ops.toList.drop j).take (j' - j) ++ ops.toList.drop j' := by
      have := (List.take_append_drop (j' - j) (ops.toList.drop j)).symm
      rw [List.drop_drop, show j + (j' - j) = j' from by omega] at this
      exact this
    rw [hd]
    refine ao_batch_aux h _ t t' hr ?_
    intro a w m i h1 h2
    exact k a w m i h1 (h2.sub (tauOf_sub live hp))

theorem at_end {ops : Array Oper} {j : Nat} {Q : Tau → Store → Prop} (hj : Nat.ble ops.size j = true) (h : Q t s) : AAt P n ops j Q t s := by
  unfold AAt
  rw [List.drop_of_length_le (by have := Nat.le_of_ble_eq_true hj; simpa using this)]
  exact ao_nil h

/-- One operation. -/
theorem at_op {ops : Array Oper} {j : Nat} {Q : Tau → Store → Prop} {R : AV → Store → Prop} {o : Oper} (ho : ops[j]? = some o) (hd : inB o.dst n = true) (hg : gd ops t o = some true) (h : AOp P o t s R)
    (k : ∀ av s', R av s' → AAt P n ops (j + 1) Q (t.put o.dst av) s') : AAt P n ops j Q t s := by
  unfold AAt
  have hj : j < ops.toList.length := by have := (Array.getElem?_eq_some_iff.1 ho).1; simpa using this
  have ho' : ops.toList[j] = o := by have := (Array.getElem?_eq_some_iff.1 ho).2; simpa using this
  rw [List.drop_eq_getElem_cons hj, ho']
  intro a w m i h1 h2 h3 h4 w0 m0 i0 s0 Q' hq hs
  unfold wpList
  rw [if_pos (gd_wanted hg h2)]
  refine .inl (h a w m i h1 (fun k _ => h2 k) _ _ ?_)
  intro v w' av s' m' i' hR hv hr hst
  exact k av s' hR _ w' m' i' hr ((h2.mono hst.mu hst.io).put (h3 ▸ inB_lt hd) hv) (size_put.trans h3) (defers_put.trans h4) w0 m0 i0 s0 Q' hq (hs.trans hst)

theorem at_one {ops : Array Oper} {j : Nat} {Q : Tau → Store → Prop} {av : AV} {s' : Store} {o : Oper} (ho : ops[j]? = some o) (hd : inB o.dst n = true) (hg : gd ops t o = some true) (h : AOp P o t s (fun x y => x = av ∧ y = s'))
    (k : AAt P n ops (j + 1) Q (t.put o.dst av) s') : AAt P n ops j Q t s :=
  at_op ho hd hg h (by rintro _ _ ⟨rfl, rfl⟩; exact k)

theorem at_shift {ops : Array Oper} {j : Nat} {Q : Tau → Store → Prop} {t' : Tau} {s' : Store} (h : Shift t s t' s') (k : AAt P n ops j Q t' s') : AAt P n ops j Q t s := ao_shift h k

/-! ### operations that are checked -/
theorem sliceElem (h : TTok P T) {ty e : Nat} (hk : lk T.kd ty = some (.slice e)) : P.underlying ty = some (.slice e) := by
  obtain ⟨d, hd, hdk⟩ := h.under hk (by simp)
  cases d <;> simp only [kdOf] at hdk <;> first | (cases hdk; done) | (cases hdk; exact hd)

theorem isString (h : TTok P T) {ty : Nat} (hk : lk T.kd ty = some .string) : P.underlying ty = some .string := by
  obtain ⟨d, hd, hdk⟩ := h.under hk (by simp)
  cases d <;> simp only [kdOf] at hdk <;> first | (cases hdk; done) | exact hd

theorem opd {x : Operand} {a : Act} {m : Mu} {i : Io} {l : Array Operand} (h : ∀ k, Operand.tmp k ∈ l → VR m i (t k) (a.tmps.getD k undef)) (hx : x ∈ l) : VR m i (ev t x) (a.eval x) :=
  VR.ev x fun k hk => h k (hk ▸ hx)

theorem aop_indexSlc (h : TTok P T) {o : Oper} {ty e sz : Nat} {x y : Operand} {cs : List AV} {n : Nat} {fu : Bool} {k : IntKind} {j : Int} (ho : o.op = .indexAddr ty x y) (hk : lk T.kd ty = some (.slice e)) (hsz : lk T.sz e = some sz)
    (hx : ev t x = .slc cs n fu) (hy : ev t y = .lit (.int k j)) (h0 : 0 ≤ j) (h1 : j < n) : AOp P o t s (fun v z => v = .ptr (cs.drop (j.toNat * sz)) ∧ z = s) := by
  refine aop_val fun a w m i hr hop => ?_
  rw [ho] at hop
  have v1 := opd (x := x) hop (by simp [Op.operands])
  have v2 := opd (x := y) hop (by simp [Op.operands])
  rw [hx] at v1; rw [hy] at v2
  have v2' : a.eval y = .int k j := v2
  obtain ⟨i0, hi, hs⟩ := h.size hsz
  rcases v1 with ⟨hn, _⟩ | ⟨b, o', cap, e1, e2, e2', e3, e4⟩
  · omega
  · refine ⟨.pointer (some ⟨b, o' + j.toNat * sz, none⟩), ?_, b, o' + j.toNat * sz, rfl, e4.drop _⟩
    simp [execOp, ho, Instr.indexAt, v2', asIntOf, run_underlying (sliceElem h hk), e1, h0, h1, sizeOf, typeInfo, hi, hs, add_lit]

theorem aop_indexStr (h : TTok P T) {o : Oper} {ty : Nat} {x y : Operand} {l : List UInt8} {k : IntKind} {j : Int} {c : UInt8} (ho : o.op = .index ty x y) (hk : lk T.kd ty = some .string)
    (hx : ev t x = .s l) (hy : ev t y = .lit (.int k j)) (h0 : 0 ≤ j) (h1 : l[j.toNat]? = some c) : AOp P o t s (fun v z => v = .lit (.int .u8 c.toNat) ∧ z = s) := by
  refine aop_val fun a w m i hr hop => ?_
  rw [ho] at hop
  have v1 := opd (x := x) hop (by simp [Op.operands])
  have v2 := opd (x := y) hop (by simp [Op.operands])
  rw [hx] at v1; rw [hy] at v2
  have v1' : a.eval x = .string ⟨l.toArray⟩ := v1
  have v2' : a.eval y = .int k j := v2
  refine ⟨_, ?_, rfl⟩
  have hg : (⟨l.toArray⟩ : ByteArray)[j.toNat]? = some c := by
    have hlt := (List.getElem?_eq_some_iff.1 h1)
    obtain ⟨hl, he⟩ := hlt
    have hs : j.toNat < (⟨l.toArray⟩ : ByteArray).size := by simpa [ByteArray.size] using hl
    rw [getElem?_pos (⟨l.toArray⟩ : ByteArray) j.toNat hs]
    exact congrArg some he
  simp [execOp, ho, Instr.index, v1', v2', asIntOf, run_underlying (isString h hk), h0, hg]

theorem opt_eval {lo : Option Operand} {d a1 : Int} {a : Act} {m : Mu} {i : Io} (h : (lo.map (ev t)).getD (.i d) = .i a1) (hop : ∀ y, lo = some y → VR m i (ev t y) (a.eval y)) :
    (lo = none ∧ a1 = d) ∨ ∃ y, lo = some y ∧ a.eval y = .int .i64 a1 := by
  cases lo with
  | none => simp at h; exact .inl ⟨rfl, h.symm⟩
  | some y =>
    simp at h
    have := hop y rfl
    rw [h] at this
    exact .inr ⟨y, rfl, this⟩

theorem run_bounds {lo hi : Option Value} {len cap : Nat} {a1 b1 : Int} (isSlice : Bool) (hlo : (lo = none ∧ a1 = 0) ∨ lo = some (.int .i64 a1)) (hhi : (hi = none ∧ b1 = len) ∨ hi = some (.int .i64 b1))
    (h0 : 0 ≤ a1) (h1 : a1 ≤ b1) (h2 : b1 ≤ len) (hc : len ≤ cap) (w : World) : (Instr.sliceBounds isSlice len cap lo hi none).run P w = .ok (a1.toNat, b1.toNat, cap) w := by
  have eb : (b1.toNat : Int) = b1 := Int.toNat_of_nonneg (by omega)
  rcases hlo with ⟨rfl, rfl⟩ | rfl <;> rcases hhi with ⟨rfl, rfl⟩ | rfl
  · simp [Instr.sliceBounds]
  · simp [Instr.sliceBounds, run_sliceBound _ _ _ _ _ (show 0 ≤ b1 by omega) (show b1 ≤ (cap : Int) by omega)]
  · simp [Instr.sliceBounds, run_sliceBound _ _ _ _ _ (show 0 ≤ a1 by omega) (show a1 ≤ (len : Int) by omega)]
  · simp [Instr.sliceBounds, run_sliceBound _ _ _ _ _ (show 0 ≤ b1 by omega) (show b1 ≤ (cap : Int) by omega), run_sliceBound _ _ _ _ _ (show 0 ≤ a1 by omega) (show a1 ≤ (b1.toNat : Int) by omega)]

theorem list_extract {α : Type} (l : List α) (a b : Nat) : l.extract a b = (l.take b).drop a := by
  rw [List.extract_eq_take_drop, List.drop_take]

/-- s[lo:hi] of a string. -/
theorem aop_sliceStr (h : TTok P T) {o : Oper} {ty : Nat} {x : Operand} {lo hi : Option Operand} {l : List UInt8} {a1 b1 : Int} (ho : o.op = .slice ty x lo hi none) (hk : lk T.kd ty = some .string)
    (hx : ev t x = .s l) (hlo : (lo.map (ev t)).getD (.i 0) = .i a1) (hhi : (hi.map (ev t)).getD (.i l.length) = .i b1) (h0 : 0 ≤ a1) (h1 : a1 ≤ b1) (h2 : b1 ≤ l.length) :
    AOp P o t s (fun v z => v = .s ((l.take b1.toNat).drop a1.toNat) ∧ z = s) := by
  refine aop_val fun a w m i hr hop => ?_
  rw [ho] at hop
  have v1 := opd (x := x) hop (by simp [Op.operands])
  rw [hx] at v1
  have v1' : a.eval x = .string ⟨l.toArray⟩ := v1
  have hsz : (⟨l.toArray⟩ : ByteArray).size = l.length := by simp [ByteArray.size]
  have ext : (⟨l.toArray⟩ : ByteArray).extract a1.toNat b1.toNat = ⟨((l.take b1.toNat).drop a1.toNat).toArray⟩ := by
    apply ByteArray.ext
    apply Array.toList_inj.1
    rw [ByteArray.data_extract, Array.toList_extract]
    exact list_extract _ _ _
  have e1 := opt_eval (a := a) (m := m) (i := i) hlo fun y hy => opd (x := y) hop (by simp [Op.operands, hy])
  have e2 := opt_eval (a := a) (m := m) (i := i) hhi fun y hy => opd (x := y) hop (by simp [Op.operands, hy])
  refine ⟨.string ((⟨l.toArray⟩ : ByteArray).extract a1.toNat b1.toNat), ?_, by rw [ext]; rfl⟩
  have hund := isString h hk
  have hb := run_bounds (P := P) (lo := lo.map a.eval) (hi := hi.map a.eval) (len := (⟨l.toArray⟩ : ByteArray).size) (cap := (⟨l.toArray⟩ : ByteArray).size) (a1 := a1) (b1 := b1) false
    (by rcases e1 with ⟨rfl, rfl⟩ | ⟨y, rfl, hy⟩ <;> simp [*]) (by rcases e2 with ⟨rfl, rfl⟩ | ⟨y, rfl, hy⟩ <;> simp [*]) h0 h1 (by rw [hsz]; exact h2) (Nat.le_refl _) w
  simp [execOp, ho, Instr.sliceAt, run_underlying hund, Instr.slice, v1', hb]

/-- xs[lo:hi] of an immutable slice. -/
theorem aop_sliceSlc (h : TTok P T) {o : Oper} {ty e sz : Nat} {x : Operand} {lo hi : Option Operand} {cs : List AV} {n : Nat} {fu : Bool} {a1 b1 : Int} (ho : o.op = .slice ty x lo hi none) (hk : lk T.kd ty = some (.slice e)) (hsz : lk T.sz e = some sz)
    (hx : ev t x = .slc cs n fu) (hlo : (lo.map (ev t)).getD (.i 0) = .i a1) (hhi : (hi.map (ev t)).getD (.i n) = .i b1) (h0 : 0 ≤ a1) (h1 : a1 ≤ b1) (h2 : b1 ≤ n) :
    AOp P o t s (fun v z => v = .slc ((cs.take (b1.toNat * sz)).drop (a1.toNat * sz)) (b1.toNat - a1.toNat) false ∧ z = s) := by
  refine aop_val fun a w m i hr hop => ?_
  rw [ho] at hop
  have v1 := opd (x := x) hop (by simp [Op.operands])
  rw [hx] at v1
  obtain ⟨i0, hi0, hs⟩ := h.size hsz
  have hund := sliceElem h hk
  have e1 := opt_eval (a := a) (m := m) (i := i) hlo fun y hy => opd (x := y) hop (by simp [Op.operands, hy])
  have e2 := opt_eval (a := a) (m := m) (i := i) hhi fun y hy => opd (x := y) hop (by simp [Op.operands, hy])
  have hb := fun (cap : Nat) (hc : n ≤ cap) => run_bounds (P := P) (lo := lo.map a.eval) (hi := hi.map a.eval) (len := n) (cap := cap) (a1 := a1) (b1 := b1) true
    (by rcases e1 with ⟨rfl, rfl⟩ | ⟨y, rfl, hy⟩ <;> simp [*]) (by rcases e2 with ⟨rfl, rfl⟩ | ⟨y, rfl, hy⟩ <;> simp [*]) h0 h1 h2 hc w
  rcases v1 with ⟨rfl, rfl, q, v1⟩ | ⟨b, o', cap, v1, v2, v2', v3, v4⟩
  · have ha : a1.toNat = 0 := by omega
    have hb1 : b1.toNat = 0 := by omega
    refine ⟨.slice q 0 0, ?_, .inl ⟨by omega, by simp, q, rfl⟩⟩
    simp [execOp, ho, Instr.sliceAt, run_underlying hund, Instr.slice, v1, hb 0 (Nat.le_refl _), ha, hb1, sizeOf, typeInfo, hi0, hs]
  · by_cases hca : cap = a1.toNat
    · have hbn : b1.toNat = a1.toNat := by omega
      refine ⟨.slice (some ⟨b, o', none⟩) (b1.toNat - a1.toNat) (cap - a1.toNat), ?_, .inr ⟨b, o', _, rfl, by omega, by omega, fun hf => (by cases hf), ?_⟩⟩
      · have hb' := hb cap v2
        rw [hca] at hb' v1
        simp [execOp, ho, Instr.sliceAt, run_underlying hund, Instr.slice, v1, hb', hca, sizeOf, typeInfo, hi0, hs]
      · rw [hbn, List.drop_of_length_le (by rw [List.length_take]; omega)]
        trivial
    · refine ⟨.slice (some ⟨b, o' + a1.toNat * sz, none⟩) (b1.toNat - a1.toNat) (cap - a1.toNat), ?_, .inr ⟨b, _, _, rfl, by omega, by omega, fun hf => (by cases hf), (v4.take _).drop _⟩⟩
      simp [execOp, ho, Instr.sliceAt, run_underlying hund, Instr.slice, v1, hb cap v2, hca, sizeOf, typeInfo, hi0, hs, add_lit]
end
end Go.Am
