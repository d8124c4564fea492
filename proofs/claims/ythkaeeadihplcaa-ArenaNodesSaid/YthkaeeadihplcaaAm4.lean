/- The abstract machine, part 4: operations that leave the store alone. -/
import Derived.Test.YthkaeeadihplcaaAm3
namespace Go.Am
open Go

abbrev AV.i (n : Int) : AV := .lit (.int .i64 n)
abbrev AV.b (x : Bool) : AV := .lit (.bool x)
abbrev AV.s (l : List UInt8) : AV := .lit (.string ⟨l.toArray⟩)
abbrev AV.nil : AV := .lit (.pointer none)

def AV.ite : Bool → AV → AV → AV
  | true, x, _ => x
  | false, _, y => y

def AV.cells : AV → List AV
  | .agg cs => cs
  | v => [v]

def AV.scalar : AV → Bool
  | .agg _ | .tup _ | .any => false
  | .lit (.agg _) | .lit (.tuple _) => false
  | _ => true

/-! ### views -/
theorem VTs.vc {m : Mu} {i : Io} : ∀ (ks : List Tr) (b o : Nat), VTs m ks b o → VC m i (ks.map .tree) b o
  | [], _, _, _ => trivial
  | k :: ks, b, o, ⟨h1, h2⟩ => ⟨h1, VTs.vc ks b (o + 1) h2⟩
theorem VC.vts {m : Mu} {i : Io} : ∀ (ks : List Tr) (b o : Nat), VC m i (ks.map .tree) b o → VTs m ks b o
  | [], _, _, _ => trivial
  | k :: ks, b, o, ⟨h1, h2⟩ => ⟨h1, VC.vts ks b (o + 1) h2⟩

abbrev kidsAV (ks : List Tr) : AV := .slc (ks.map .tree) ks.length false
abbrev nodeAV (k n : Int) (nm mk : List UInt8) (ks : List Tr) : AV := .ptr [.i k, .i n, .s nm, .s mk, kidsAV ks]

theorem Weak.trans {x y z : AV} (h : Weak x y) (k : Weak y z) : Weak x z := fun m i v hv => k m i v (h m i v hv)
theorem Weak.any (x : AV) : Weak x .any := fun _ _ _ _ => trivial
theorem Weak.tree_nil : Weak (.tree .nil) .nil := fun _ _ _ h => h
theorem Weak.nil_tree : Weak .nil (.tree .nil) := fun _ _ _ h => h
theorem Weak.tree_node (k n : Int) (nm mk : List UInt8) (ks : List Tr) : Weak (.tree (.node k n nm mk ks)) (nodeAV k n nm mk ks) := by
  intro m i v h
  obtain ⟨b, o, u, h1, h2, h3, h4, h5, h6, h7⟩ := h
  refine ⟨b, o, h1, ⟨_, h2, rfl⟩, ⟨_, h3, rfl⟩, ⟨_, h4, rfl⟩, ⟨_, h5, rfl⟩, ⟨u, h6, ?_⟩, trivial⟩
  rcases h7 with ⟨rfl, h8⟩ | ⟨b', o', cap, h8, h9, h10, h11⟩
  · exact .inl ⟨rfl, rfl, h8⟩
  · exact .inr ⟨b', o', cap, h8, h9, h10, fun h => (by cases h), VTs.vc _ _ _ h11⟩
theorem Weak.node_tree (k n : Int) (nm mk : List UInt8) (ks : List Tr) : Weak (nodeAV k n nm mk ks) (.tree (.node k n nm mk ks)) := by
  intro m i v h
  obtain ⟨b, o, h1, ⟨u1, h2, rfl⟩, ⟨u2, h3, rfl⟩, ⟨u3, h4, rfl⟩, ⟨u4, h5, rfl⟩, ⟨u, h6, h7⟩, _⟩ := h
  refine ⟨b, o, u, h1, h2, h3, h4, h5, h6, ?_⟩
  rcases h7 with ⟨hn, hl, h8⟩ | ⟨b', o', cap, h8, h9, h10, _, h11⟩
  · exact .inl ⟨List.length_eq_zero_iff.1 hn, h8⟩
  · exact .inr ⟨b', o', cap, h8, h9, h10, VC.vts _ _ _ h11⟩
theorem Weak.slc_full (cs : List AV) (n : Nat) (f : Bool) : Weak (.slc cs n f) (.slc cs n false) := by
  intro m i v h
  rcases h with h | ⟨b, o, cap, h1, h2, h3, h4, h5⟩
  · exact .inl h
  · exact .inr ⟨b, o, cap, h1, h2, h3, fun h => (by cases h), h5⟩
theorem Weak.nil_slc (f : Bool) : Weak (.lit (.slice none 0 0)) (.slc [] 0 f) := fun _ _ _ h => .inl ⟨rfl, rfl, none, h⟩

section
variable {P : Program} {T : TT} {t : Tau} {s : Store}

theorem aop_gen {o : Oper} {av : AV} {s' : Store}
    (h : ∀ (a : Act) (w : World) (m : Mu) (i : Io), Rel w m i s → (∀ k, Operand.tmp k ∈ o.op.operands → VR m i (t k) (a.tmps.getD k undef)) →
      ∃ v w' m' i', (execOp a.eval o).run P w = .ok (.value v) w' ∧ VR m' i' av v ∧ Rel w' m' i' s' ∧ Step w m i s w' m' i' s') :
    AOp P o t s (fun x y => x = av ∧ y = s') := by
  intro a w m i hr ho K Q hk
  obtain ⟨v, w', m', i', h1, h2, h3, h4⟩ := h a w m i hr ho
  unfold Oper.wp
  rw [h1]
  exact hk v w' av s' m' i' ⟨rfl, rfl⟩ h2 h3 h4

theorem aop_val {o : Oper} {av : AV}
    (h : ∀ (a : Act) (w : World) (m : Mu) (i : Io), Rel w m i s → (∀ k, Operand.tmp k ∈ o.op.operands → VR m i (t k) (a.tmps.getD k undef)) →
      ∃ v, (execOp a.eval o).run P w = .ok (.value v) w ∧ VR m i av v) :
    AOp P o t s (fun x y => x = av ∧ y = s) :=
  aop_gen fun a w m i hr ho => let ⟨v, h1, h2⟩ := h a w m i hr ho; ⟨v, w, m, i, h1, h2, hr, Step.refl _ _ _ _⟩

/-! ### a row of immutable cells is made -/
def Mu.more (m : Mu) (b0 : Nat) (vs : List Value) : Mu := fun b o => if b = b0 then vs[o]? else m b o

theorem Rel.none_new {w m i} (h : Rel w m i s) (o : Nat) : m w.heap.size o = none := by
  cases hm : m w.heap.size o with
  | none => rfl
  | some v =>
    have := World.block_lt_of_cell? w _ (h.mu _ _ _ hm).1
    simp at this

theorem Mu.le_more {w m i} (h : Rel w m i s) (vs : List Value) : m.le (m.more w.heap.size vs) := by
  intro b o v hb
  unfold Mu.more
  by_cases e : b = w.heap.size
  · subst e; rw [h.none_new] at hb; cases hb
  · rw [if_neg e]; exact hb

theorem Rel.make {w m i} (h : Rel w m i s) (e : TypeId) (vs : List Value) (d : Nat) (h1 : Ones vs) :
    Rel ({ (w.alloc (.cells vs.toArray e (0, 0))) with drawn := d }) (m.more w.heap.size vs) i s ∧ Step w m i s ({ (w.alloc (.cells vs.toArray e (0, 0))) with drawn := d }) (m.more w.heap.size vs) i s := by
  have hmo : ∀ b, b < w.heap.size → ∀ o, m.more w.heap.size vs b o = m b o := fun b hb o => by unfold Mu.more; rw [if_neg (by omega)]
  refine ⟨⟨fun b o v hv => ?_, fun p hp => ?_, h.apart, h.fin⟩, ⟨rfl, rfl, rfl, by simp, Mu.le_more h vs, Io.le_refl _, fun b hb _ => heap_alloc_old w _ hb, fun b hb _ o => hmo b hb o, fun p hp => .inl ⟨p, hp, rfl⟩, fun b hb => .inl hb⟩⟩
  · show (w.alloc (.cells vs.toArray e (0, 0))).cell? ⟨b, o, none⟩ = some v ∧ v.oneCell' = true
    unfold Mu.more at hv
    by_cases e' : b = w.heap.size
    · subst e'
      rw [if_pos rfl] at hv
      rw [World.cell?_alloc_new]
      exact ⟨by simpa using hv, h1 v (List.mem_of_getElem? hv)⟩
    · rw [if_neg e'] at hv
      have := h.mu _ _ _ hv
      rw [World.cell?_alloc_lt _ _ _ (World.block_lt_of_cell? w _ this.1)]
      exact this
  · exact (h.obj p hp).mono_block (Mu.le_more h vs) (Io.le_refl _) (fun b hb => heap_alloc_old w _ ((h.obj p hp).lt hb)) (fun b hb o => hmo b ((h.obj p hp).lt hb) o)

theorem Rel.made {w m i} {cs : List AV} {vs : List Value} (h : Rel w m i s) (hl : VL m i cs vs) : VC (m.more w.heap.size vs) i cs w.heap.size 0 :=
  VC.of_list (VL.mono (Mu.le_more h vs) (Io.le_refl _) _ _ hl) fun k v hk => by unfold Mu.more; rw [if_pos rfl]; simpa using hk

theorem VR.scalar {m : Mu} {i : Io} {c : AV} {v : Value} (h : VR m i c v) (hc : c.scalar = true) : v.oneCell' = true ∧ v.cells = #[v] ∧ c.cells = [c] := by
  cases c with
  | lit x => unfold VR at h; subst h; cases v <;> first | exact ⟨rfl, rfl, rfl⟩ | cases hc
  | tree t => cases t with
    | nil => cases h; exact ⟨rfl, rfl, rfl⟩
    | node k n nm mk ks => obtain ⟨b, o, v', rfl, _⟩ := h; exact ⟨rfl, rfl, rfl⟩
  | agg cs => cases hc
  | tup cs => cases hc
  | any => cases hc
  | ptr cs => obtain ⟨b, o, rfl, _⟩ := h; exact ⟨rfl, rfl, rfl⟩
  | slc cs n f => rcases h with ⟨_, _, a, rfl⟩ | ⟨b, o, cap, rfl, _⟩ <;> exact ⟨rfl, rfl, rfl⟩
  | nslc cs n f => rcases h with ⟨_, _, a, rfl⟩ | ⟨b, o, cap, rfl, _⟩ <;> exact ⟨rfl, rfl, rfl⟩
  | ref id off => obtain ⟨b, o, _, rfl⟩ := h; exact ⟨rfl, rfl, rfl⟩
  | row id n => rcases h with ⟨_, _, rfl⟩ | ⟨b, cap, _, _, rfl⟩ <;> exact ⟨rfl, rfl, rfl⟩
  | fn f fi ca => obtain ⟨fs, cs, rfl, _⟩ := h; exact ⟨rfl, rfl, rfl⟩
  | mp id => obtain ⟨b, c, _, rfl⟩ := h; exact ⟨rfl, rfl, rfl⟩
  | it id => obtain ⟨b, c, _, rfl⟩ := h; exact ⟨rfl, rfl, rfl⟩

theorem VR.cells {m : Mu} {i : Io} {c : AV} {v : Value} (h : VR m i c v) (hc : c.scalar = true ∨ ∃ cs, c = .agg cs) : VL m i c.cells v.cells.toList ∧ Ones v.cells.toList := by
  rcases hc with hc | ⟨cs, rfl⟩
  · obtain ⟨h1, h2, h3⟩ := h.scalar hc
    rw [h2, h3]
    exact ⟨⟨v, [], rfl, h, rfl⟩, by intro x hx; simp at hx; rw [hx]; exact h1⟩
  · obtain ⟨vs, rfl, h1, h2⟩ := h
    exact ⟨h2, h1⟩

theorem VL.consts {m : Mu} {i : Io} : ∀ (vs : List Value), VL m i (vs.map AV.ofConst) vs
  | [] => rfl
  | v :: vs => ⟨v, vs, rfl, VR.ofConst v, VL.consts vs⟩

theorem VL.map_ev {m : Mu} {i : Io} {a : Act} : ∀ (l : List Operand), (∀ k, Operand.tmp k ∈ l → VR m i (t k) (a.tmps.getD k undef)) → VL m i (l.map (ev t)) (l.map a.eval)
  | [], _ => rfl
  | x :: l, h => ⟨_, _, rfl, VR.ev x (fun k hk => h k (by subst hk; exact List.mem_cons_self)), VL.map_ev l fun k hk => h k (List.mem_cons_of_mem _ hk)⟩

/-! ### what a literal of a struct, of a slice holds -/
def pfill (place : Nat → Option (Nat × Nat)) (cells : List AV) : List (Nat × AV) → Option (List AV)
  | [] => some cells
  | (j, v) :: rest =>
    match place j with
    | none => none
    | some (off, size) =>
      match v with
      | .agg cs => if Nat.beq cs.length size && Nat.ble (off + cs.length) cells.length then pfill place (cells.take off ++ cs ++ cells.drop (off + cs.length)) rest else none
      | v => if v.scalar && Nat.beq 1 size && Nat.ble (off + 1) cells.length then pfill place (cells.set off v) rest else none

theorem VL.eq_len {m : Mu} {i : Io} {cs : List AV} {vs : List Value} (h : VL m i cs vs) : cs.length = vs.length := (VL.length h).symm

theorem foldl_sets (off : Nat) : ∀ (xs : List Value) (k : Nat) (cs : Array Value), off + k + xs.length ≤ cs.size →
    ((xs.zipIdx k).foldl (fun cs (p : Value × Nat) => cs.setIfInBounds (off + p.2) p.1) cs).toList = cs.toList.take (off + k) ++ xs ++ cs.toList.drop (off + k + xs.length)
  | [], k, cs, _ => by simp
  | x :: xs, k, cs, h => by
    simp only [List.length_cons] at h
    simp only [List.zipIdx_cons, List.foldl_cons]
    rw [foldl_sets off xs (k + 1) _ (by simp; omega)]
    have hn : off + k < cs.toList.length := by simp; omega
    have e1 : (cs.setIfInBounds (off + k) x).toList = cs.toList.take (off + k) ++ x :: cs.toList.drop (off + k + 1) := by
      rw [Array.toList_setIfInBounds, List.set_eq_take_append_cons_drop, if_pos hn]
    have hl : (cs.toList.take (off + k)).length = off + k := by rw [List.length_take]; omega
    rw [e1, show off + (k + 1) = off + k + 1 from by omega]
    have e2 : (cs.toList.take (off + k) ++ x :: cs.toList.drop (off + k + 1)).take (off + k + 1) = cs.toList.take (off + k) ++ [x] := by
      rw [List.take_append, hl, List.take_of_length_le (by omega)]
      simp
    have e3 : (cs.toList.take (off + k) ++ x :: cs.toList.drop (off + k + 1)).drop (off + k + 1 + xs.length) = cs.toList.drop (off + k + (xs.length + 1)) := by
      rw [List.drop_append, hl, List.drop_of_length_le (by omega), show off + k + 1 + xs.length - (off + k) = xs.length + 1 from by omega]
      simp only [List.nil_append, List.drop_succ_cons, List.drop_drop]
      congr 1
      omega
    rw [e2, e3]
    simp

def PL (m : Mu) (i : Io) : List (Nat × AV) → List (Nat × Value) → Prop
  | [], l => l = []
  | p :: ps, l => ∃ v l', l = (p.1, v) :: l' ∧ VR m i p.2 v ∧ PL m i ps l'

theorem pfill_fill {m : Mu} {i : Io} {place : Nat → Option (Nat × Nat)} : ∀ (ps : List (Nat × AV)) (qs : List (Nat × Value)) (cells cells' : List AV) (vs : List Value),
    PL m i ps qs → VL m i cells vs → Ones vs → pfill place cells ps = some cells' → ∃ vs' : List Value, Instr.fill place vs.toArray qs = some vs'.toArray ∧ VL m i cells' vs' ∧ Ones vs'
  | [], qs, cells, cells', vs, hp, hv, hone, h => by
    simp only [PL] at hp
    simp only [pfill, Option.some.injEq] at h
    subst hp; subst h
    exact ⟨vs, rfl, hv, hone⟩
  | (j, v) :: ps, _, cells, cells', vs, ⟨x, qs, rfl, hx, hq⟩, hv, hone, h => by
    simp only [pfill] at h
    split at h
    · cases h
    · rename_i off size hpl
      have step : ∀ (ns : List AV) (nv : List Value) (hxs : x.cells.toList = nv) (ho1 : Ones nv) (hn : VL m i ns nv) (hs : nv.length = size) (hle : off + nv.length ≤ vs.length)
          (h2 : pfill place (cells.take off ++ ns ++ cells.drop (off + ns.length)) ps = some cells'), ∃ vs' : List Value, Instr.fill place vs.toArray ((j, x) :: qs) = some vs'.toArray ∧ VL m i cells' vs' ∧ Ones vs' := by
        intro ns nv hxs ho1 hn hs hle h2
        obtain ⟨vs', h3, h4⟩ := pfill_fill ps qs _ cells' (vs.take off ++ nv ++ vs.drop (off + nv.length)) hq (by
          rw [show off + ns.length = off + nv.length from by rw [hn.eq_len]]
          exact ((hv.take _).append hn).append (hv.drop _)) (by
          intro y hy
          rcases List.mem_append.1 hy with hy | hy
          · rcases List.mem_append.1 hy with hy | hy
            · exact hone y (List.mem_of_mem_take hy)
            · exact ho1 y hy
          · exact hone y (List.mem_of_mem_drop hy)) h2
        refine ⟨vs', ?_, h4⟩
        simp only [Instr.fill, hpl]
        have hsz : x.cells.size = nv.length := by rw [← hxs]; simp
        rw [if_neg (by simp [hsz, hs]; omega), ← h3]
        congr 1
        have hf := foldl_sets off nv 0 vs.toArray (by simp; omega)
        have hz : x.cells.zipIdx.foldl (fun cs (p : Value × Nat) => cs.setIfInBounds (off + p.2) p.1) vs.toArray = (nv.zipIdx 0).foldl (fun cs (p : Value × Nat) => cs.setIfInBounds (off + p.2) p.1) vs.toArray := by
          rw [← hxs, ← Array.foldl_toList]
          simp
        apply Array.toList_inj.1
        have hf' := hf
        simp only [Nat.add_zero] at hf'
        exact (congrArg Array.toList hz).trans hf'
      split at h
      · rename_i cs
        split at h
        · rename_i hb
          obtain ⟨xs, rfl, hx1, hxs⟩ := hx
          simp only [Bool.and_eq_true] at hb
          have h1 : cs.length = size := Nat.eq_of_beq_eq_true hb.1
          have h2 : off + cs.length ≤ cells.length := Nat.le_of_ble_eq_true hb.2
          have hl := hxs.eq_len
          have hl2 := hv.eq_len
          exact step cs xs rfl hx1 hxs (by omega) (by omega) h
        · cases h
      · split at h
        · rename_i hb
          simp only [Bool.and_eq_true] at hb
          have h1 : 1 = size := Nat.eq_of_beq_eq_true hb.1.2
          have h2 : off + 1 ≤ cells.length := Nat.le_of_ble_eq_true hb.2
          have hl2 := hv.eq_len
          obtain ⟨hc, hc1⟩ := hx.cells (.inl hb.1.1)
          have hvc : v.cells = [v] := by cases v <;> first | rfl | (simp [AV.scalar] at hb)
          rw [hvc] at hc
          have hl := hc.eq_len
          refine step [v] x.cells.toList rfl hc1 hc (by rw [← hl]; exact h1) (by simp only [List.length_cons, List.length_nil] at hl; omega) ?_
          rw [← h]
          congr 1
          rw [List.set_eq_take_append_cons_drop, if_pos (by omega)]
          simp
        · cases h

end
end Go.Am
