/- The abstract machine, part 5: a program for the operations that leave the store alone, and that it is right. -/
import Derived.Test.YthkaeeadihplcaaAm4
namespace Go.Am
open Go

def pint (op : BinOp) (k : IntKind) (a b : Int) : Option AV :=
  match op with
  | .add => some (.lit (.int k (k.wrap (a + b))))
  | .sub => some (.lit (.int k (k.wrap (a - b))))
  | .mul => some (.lit (.int k (k.wrap (a * b))))
  | .eql => some (.b (decide (a = b)))
  | .neq => some (.b (!decide (a = b)))
  | .lss => some (.b (decide (a < b)))
  | .leq => some (.b (decide (a ≤ b)))
  | .gtr => some (.b (decide (b < a)))
  | .geq => some (.b (decide (b ≤ a)))
  | .quo => if b = 0 then none else some (.lit (.int k (k.wrap (a.tdiv b))))
  | .rem => if b = 0 then none else some (.lit (.int k (a.tmod b)))
  | _ => none

def pbin (op : BinOp) (kd : Option Kd) (x y : AV) : Option AV :=
  match x, y with
  | .lit (.int k a), .lit (.int k' b) => if k = k' then pint op k a b else none
  | .lit (.string a), .lit (.string b) =>
    match op with
    | .eql => some (.b (decide (a.data.toList = b.data.toList)))
    | .neq => some (.b (!decide (a.data.toList = b.data.toList)))
    | .lss => some (.b (Op.bytesLess a.data.toList b.data.toList))
    | _ => none
  | .lit (.bool a), .lit (.bool b) =>
    match kd, op with
    | some .bool, .eql => some (.b (a == b))
    | some .bool, .neq => some (.b (!(a == b)))
    | _, _ => none
  | .lit (.pointer none), .lit (.pointer none) =>
    match kd, op with
    | some (.pointer _), .eql => some (.b true)
    | some (.pointer _), .neq => some (.b false)
    | _, _ => none
  | .nslc _ _ _, .lit (.slice none _ _) =>
    match kd, op with
    | some (.slice _), .eql => some (.b false)
    | some (.slice _), .neq => some (.b true)
    | _, _ => none
  | .lit (.slice none _ _), .lit (.slice none _ _) =>
    match kd, op with
    | some (.slice _), .eql => some (.b true)
    | some (.slice _), .neq => some (.b false)
    | _, _ => none
  | .tree .nil, .lit (.pointer none) =>
    match kd, op with
    | some (.pointer _), .eql => some (.b true)
    | some (.pointer _), .neq => some (.b false)
    | _, _ => none
  | .tree (.node _ _ _ _ _), .lit (.pointer none) =>
    match kd, op with
    | some (.pointer _), .eql => some (.b false)
    | some (.pointer _), .neq => some (.b true)
    | _, _ => none
  | .ptr _, .lit (.pointer none) | .ref _ _, .lit (.pointer none) =>
    match kd, op with
    | some (.pointer _), .eql => some (.b false)
    | some (.pointer _), .neq => some (.b true)
    | _, _ => none
  | _, _ => none

def pparts (t : Tau) (ps : Array (Nat × Operand)) : List (Nat × AV) := ps.toList.map fun p => (p.1, ev t p.2)

def pcall (T : TT) (t : Tau) (b : Builtin) (args : List Operand) (types : List Nat) : Option AV :=
  match b, args, types with
  | .len, [x], [ty] =>
    match lk T.kd ty, ev t x with
    | some .string, .lit (.string a) => some (.i a.data.toList.length)
    | some (.slice _), .lit (.slice none 0 0) => some (.i 0)
    | some (.slice _), .slc _ n _ => some (.i n)
    | some (.slice _), .nslc _ n _ => some (.i n)
    | some (.slice _), .row _ n => some (.i n)
    | _, _ => none
  | .min, [x, y], _ =>
    match ev t x, ev t y with
    | .lit (.int k a), .lit (.int _ b) => some (.lit (.int k (if b < a then b else a)))
    | _, _ => none
  | .max, [x, y], _ =>
    match ev t x, ev t y with
    | .lit (.int k a), .lit (.int _ b) => some (.lit (.int k (if a < b then b else a)))
    | _, _ => none
  | _, _, _ => none

/-- What an operation that leaves the store alone comes to. -/
def pop (T : TT) (t : Tau) : Op → Option AV
  | .move x => some (ev t x)
  | .assign x => some (ev t x)
  | .pick c a b => match ev t c with
    | .lit (.bool x) => some (AV.ite x (ev t a) (ev t b))
    | _ => none
  | .nilCheck x => match ev t x with
    | .ptr cs => some (.ptr cs)
    | .tree (.node k n nm mk ks) => some (nodeAV k n nm mk ks)
    | .ref i o => some (.ref i o)
    | .fn (.func f) fi ca => some (.fn (.func f) fi ca)
    | _ => none
  | .fieldAddr ty x f => match lk T.fld ty with
    | none => none
    | some fs => match fs[f]? with
      | some (_, off, sz + 1) => match ev t x with
        | .ptr cs => some (.ptr (cs.drop off))
        | .ref i o => some (.ref i (o + off))
        | _ => none
      | _ => none
  | .field ty x f => match lk T.fld ty with
    | none => none
    | some fs => match fs[f]? with
      | some (fty, off, _) => match ev t x with
        | .agg cs => match T.lay fty with
          | some (true, n) => some (.agg ((cs.drop off).take n))
          | some (false, _) => cs[off]?
          | none => none
        | _ => none
      | _ => none
  | .load ty a => match ev t a with
    | .ptr cs => match T.lay ty with
      | some (true, n) => if Nat.ble n cs.length then some (.agg (cs.take n)) else none
      | some (false, _) => cs.head?
      | none => none
    | _ => none
  | .binOp op ty x y _ => pbin op (lk T.kd ty) (ev t x) (ev t y)
  | .unOp .not _ x => match ev t x with
    | .lit (.bool b) => some (.b (!b))
    | _ => none
  | .unOp .neg _ x => match ev t x with
    | .lit (.int k a) => some (.lit (.int k (k.wrap (0 - a))))
    | _ => none
  | .convert src dst x => match lk T.kd src, lk T.kd dst, ev t x with
    | some (.int _), some (.int k), .lit (.int _ a) => some (.lit (.int k (k.wrap a)))
    | some .string, some .string, .lit (.string a) => some (.lit (.string a))
    | _, _, _ => none
  | .makeFunc f fi ca => some (.fn f (fi.toList.map (ev t)) (ca.toList.map (ev t)))
  | .extract x j => match ev t x with
    | .tup l => l[j]?
    | _ => none
  | .build ty ps => match lk T.zero ty, lk T.fld ty with
    | some zs, some fs => if ((fs.all fun f => Nat.blt 0 f.2.2) && zs.all Value.oneCell') = false then none else (pfill (fun j => (fs[j]?).map fun f => (f.2.1, f.2.2)) (zs.map AV.ofConst) (pparts t ps)).map .agg
    | _, _ => none
  | .box _ v => match ev t v with
    | .agg cs => some (.ptr cs)
    | v => if v.scalar then some (.ptr [v]) else none
  | .buildSlice ty n ps => match lk T.kd ty with
    | some (.slice e) => match lk T.zero e, lk T.sz e with
      | some zs, some sz =>
        if Nat.ble (n * sz) 16777216 && Nat.beq zs.length sz && Nat.ble n 16777216 && zs.all Value.oneCell' then
          (pfill (fun j => some (j * sz, sz)) ((List.range (n * sz)).map fun j => (zs.map AV.ofConst).getD (j % sz) .any) (pparts t ps)).map fun cs => .slc cs n true
        else none
      | _, _ => none
    | _ => none
  | .call c => match c.callee with
    | .builtin b => pcall T t b c.args.toList c.argTypes.toList
    | _ => none
  | _ => none

section
variable {P : Program} {T : TT} {t : Tau} {s : Store}

theorem toList_str (a : ByteArray) : a.toList = a.data.toList := ByteArray.toList_eq a

theorem run_eqGuard {op : BinOp} {ty : Nat} {x y : Operand} {a b : Value} (h1 : ∀ cs, a ≠ .agg cs) (h2 : a ≠ .nilIface) (w : World) : (eqGuard op ty x y a b).run P w = .ok () w := by
  unfold eqGuard
  cases op <;> simp <;> (split <;> first | (exact absurd rfl h2) | (exact absurd rfl (h1 _)) | rfl)

theorem run_pint {op : BinOp} {k : IntKind} {a b : Int} {av : AV} (h : pint op k a b = some av) (ty : Nat) (w : World) :
    ∃ v, (binOp op ty (.int k a) (.int k b)).run P w = .ok v w ∧ av = .lit v := by
  have e1 : ∀ a b : Int, (a == b) = decide (a = b) := fun a b => rfl
  cases op <;> simp only [pint] at h <;> first
    | (cases h; refine ⟨_, ?_, rfl⟩; simp [binOp, Op.intArith, Op.intCmp, e1, bne]; done)
    | (cases h; done)
    | (by_cases hb : b = 0
       · rw [if_pos hb] at h; cases h
       · rw [if_neg hb] at h; cases h; refine ⟨_, ?_, rfl⟩; simp [binOp, Op.intDiv, hb])

theorem binOp_eql_bool (ty : Nat) (a b : Bool) : binOp .eql ty (.bool a) (.bool b) = (do pure (.bool (← Op.equal ty (.bool a) (.bool b)))) := rfl
theorem binOp_neq_bool (ty : Nat) (a b : Bool) : binOp .neq ty (.bool a) (.bool b) = (do pure (.bool (!(← Op.equal ty (.bool a) (.bool b))))) := rfl
theorem binOp_eql_ptr (ty : Nat) (a b : Option Addr) : binOp .eql ty (.pointer a) (.pointer b) = (do pure (.bool (← Op.equal ty (.pointer a) (.pointer b)))) := by cases a <;> cases b <;> rfl
theorem binOp_neq_ptr (ty : Nat) (a b : Option Addr) : binOp .neq ty (.pointer a) (.pointer b) = (do pure (.bool (!(← Op.equal ty (.pointer a) (.pointer b))))) := by cases a <;> cases b <;> rfl

theorem run_equal_bool {ty : Nat} (hk : lk T.kd ty = some .bool) (h : TTok P T) (a b : Bool) (w : World) : (Op.equal ty (.bool a) (.bool b)).run P w = .ok (a == b) w := by
  obtain ⟨d, hd, hdk⟩ := h.under hk (by simp)
  unfold Op.equal Op.maxDepth Op.equalIn
  cases d <;> simp only [kdOf] at hdk <;> first | (cases hdk; done) | skip
  rw [Sem.run_bind, run_underlying hd]
  rfl

theorem run_equal_nil {ty e : Nat} (hk : lk T.kd ty = some (.pointer e)) (h : TTok P T) (a : Option Addr) (w : World) : (Op.equal ty (.pointer a) (.pointer none)).run P w = .ok a.isNone w := by
  obtain ⟨d, hd, hdk⟩ := h.under hk (by simp)
  unfold Op.equal Op.maxDepth Op.equalIn
  cases d <;> simp only [kdOf] at hdk <;> first | (cases hdk; done) | skip
  rw [Sem.run_bind, run_underlying hd]
  cases a <;> rfl

theorem binOp_eql_slc (ty : Nat) (a b : Option Addr) (n c n' c' : Nat) : binOp .eql ty (.slice a n c) (.slice b n' c') = (do pure (.bool (← Op.equal ty (.slice a n c) (.slice b n' c')))) := rfl
theorem binOp_neq_slc (ty : Nat) (a b : Option Addr) (n c n' c' : Nat) : binOp .neq ty (.slice a n c) (.slice b n' c') = (do pure (.bool (!(← Op.equal ty (.slice a n c) (.slice b n' c'))))) := rfl
theorem run_equal_nils {ty e : Nat} (hk : lk T.kd ty = some (.slice e)) (h : TTok P T) (a : Option Addr) (n c n' c' : Nat) (w : World) : (Op.equal ty (.slice a n c) (.slice none n' c')).run P w = .ok a.isNone w := by
  obtain ⟨d, hd, hdk⟩ := h.under hk (by simp)
  unfold Op.equal Op.maxDepth Op.equalIn
  cases d <;> simp only [kdOf] at hdk <;> first | (cases hdk; done) | skip
  rw [Sem.run_bind, run_underlying hd]
  cases a <;> rfl

theorem run_pbin {op : BinOp} {ty : Nat} {x y : AV} {av : AV} (h : TTok P T) (hp : pbin op (lk T.kd ty) x y = some av) {m : Mu} {i : Io} {a b : Value} (ha : VR m i x a) (hb : VR m i y b) (xo yo : Operand) (w : World) :
    ∃ v, (do eqGuard op ty xo yo a b; binOp op ty a b : Sem Value).run P w = .ok v w ∧ VR m i av v := by
  have fin : (∀ cs, a ≠ .agg cs) → a ≠ .nilIface → (∃ v, (binOp op ty a b).run P w = .ok v w ∧ VR m i av v) → ∃ v, (do eqGuard op ty xo yo a b; binOp op ty a b : Sem Value).run P w = .ok v w ∧ VR m i av v := by
    intro h1 h2 ⟨v, h3, h4⟩
    refine ⟨v, ?_, h4⟩
    rw [Sem.run_bind, run_eqGuard h1 h2]
    exact h3
  unfold pbin at hp
  split at hp
  · cases ha; cases hb
    split at hp
    · rename_i hk
      subst hk
      obtain ⟨v, h1, h2⟩ := run_pint (P := P) hp ty w
      exact fin (by simp) (by simp) ⟨v, h1, by rw [h2]; rfl⟩
    · cases hp
  · cases ha; cases hb
    refine fin (by simp) (by simp) ?_
    split at hp <;> cases hp
    · exact ⟨_, by rw [binOp_string_eql]; rfl, by simp [VR, toList_str, Bool.beq_eq_decide_eq]⟩
    · exact ⟨_, by rw [binOp_string_neq]; rfl, by simp [VR, toList_str, Bool.beq_eq_decide_eq]⟩
    · exact ⟨_, by rw [binOp_string_lss]; rfl, by simp [VR, toList_str]⟩
  · cases ha; cases hb
    refine fin (by simp) (by simp) ?_
    split at hp
    · rename_i hk
      cases hp
      exact ⟨_, by rw [binOp_eql_bool, Sem.run_bind, run_equal_bool hk h]; rfl, rfl⟩
    · rename_i hk
      cases hp
      exact ⟨_, by rw [binOp_neq_bool, Sem.run_bind, run_equal_bool hk h]; rfl, rfl⟩
    · cases hp
  · cases ha; cases hb
    refine fin (by simp) (by simp) ?_
    split at hp
    · rename_i hk
      cases hp
      exact ⟨_, by rw [binOp_eql_ptr, Sem.run_bind, run_equal_nil hk h]; rfl, rfl⟩
    · rename_i hk
      cases hp
      exact ⟨_, by rw [binOp_neq_ptr, Sem.run_bind, run_equal_nil hk h]; rfl, rfl⟩
    · cases hp
  · obtain ⟨adr, len', cap', rfl⟩ : ∃ adr len cap, a = .slice (some adr) len cap := by
      rcases ha with ⟨_, _, q, rfl⟩ | ⟨b', o', cap', rfl, _⟩
      · exact ⟨_, _, _, rfl⟩
      · exact ⟨_, _, _, rfl⟩
    cases hb
    refine fin (by simp) (by simp) ?_
    split at hp
    · rename_i hk
      cases hp
      exact ⟨_, by rw [binOp_eql_slc, Sem.run_bind, run_equal_nils hk h]; rfl, rfl⟩
    · rename_i hk
      cases hp
      exact ⟨_, by rw [binOp_neq_slc, Sem.run_bind, run_equal_nils hk h]; rfl, rfl⟩
    · cases hp
  · cases ha; cases hb
    refine fin (by simp) (by simp) ?_
    split at hp
    · rename_i hk
      cases hp
      exact ⟨_, by rw [binOp_eql_slc, Sem.run_bind, run_equal_nils hk h]; rfl, rfl⟩
    · rename_i hk
      cases hp
      exact ⟨_, by rw [binOp_neq_slc, Sem.run_bind, run_equal_nils hk h]; rfl, rfl⟩
    · cases hp
  · cases ha; cases hb
    refine fin (by simp) (by simp) ?_
    split at hp
    · rename_i hk
      cases hp
      exact ⟨_, by rw [binOp_eql_ptr, Sem.run_bind, run_equal_nil hk h]; rfl, rfl⟩
    · rename_i hk
      cases hp
      exact ⟨_, by rw [binOp_neq_ptr, Sem.run_bind, run_equal_nil hk h]; rfl, rfl⟩
    · cases hp
  · obtain ⟨b', o', v', rfl, _⟩ := ha
    cases hb
    refine fin (by simp) (by simp) ?_
    split at hp
    · rename_i hk
      cases hp
      exact ⟨_, by rw [binOp_eql_ptr, Sem.run_bind, run_equal_nil hk h]; rfl, rfl⟩
    · rename_i hk
      cases hp
      exact ⟨_, by rw [binOp_neq_ptr, Sem.run_bind, run_equal_nil hk h]; rfl, rfl⟩
    · cases hp
  · obtain ⟨b', o', rfl, _⟩ := ha
    cases hb
    refine fin (by simp) (by simp) ?_
    split at hp
    · rename_i hk
      cases hp
      exact ⟨_, by rw [binOp_eql_ptr, Sem.run_bind, run_equal_nil hk h]; rfl, rfl⟩
    · rename_i hk
      cases hp
      exact ⟨_, by rw [binOp_neq_ptr, Sem.run_bind, run_equal_nil hk h]; rfl, rfl⟩
    · cases hp
  · obtain ⟨b', o', _, rfl⟩ := ha
    cases hb
    refine fin (by simp) (by simp) ?_
    split at hp
    · rename_i hk
      cases hp
      exact ⟨_, by rw [binOp_eql_ptr, Sem.run_bind, run_equal_nil hk h]; rfl, rfl⟩
    · rename_i hk
      cases hp
      exact ⟨_, by rw [binOp_neq_ptr, Sem.run_bind, run_equal_nil hk h]; rfl, rfl⟩
    · cases hp
  · cases hp

end
end Go.Am
