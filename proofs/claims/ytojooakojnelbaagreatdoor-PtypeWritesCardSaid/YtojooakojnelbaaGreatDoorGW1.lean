/- Joined texts: W1. -/
import Derived.Test.YtojooakojnelbaaGreatDoorGs
/- Types as texts, part 1: what the program writes is what the document writes. -/
namespace Go.Proofs.YtojooakojnelbaaGreatDoor
open Go Go.Am Go.Sx

theorem works6 (k : Nat) : law06_works (k + 60) = some true := by kernel_rfl
theorem ev_works6 : Ev (fun K => law06_works K) true := ⟨60, fun K hK => by
  obtain ⟨k, rfl⟩ : ∃ k, K = k + 60 := ⟨K - 60, by omega⟩
  exact works6 k⟩

/-- in signs, if it must be -/
def par (b : Bool) (s : List UInt8) : List UInt8 := if b = true then [40, 32] ++ s ++ [32, 41] else s
theorem par_len (b : Bool) (s : List UInt8) : (par b s).length ≤ s.length + 4 := by
  unfold par; split <;> simp
def need (t : Tr) (level : Int) : Bool := (decide (kindOf t = 5) && decide (0 < level)) || (decide (kindOf t = 6) && decide (1 < level))
theorem need0 (t : Tr) : need t 0 = false := by simp [need]
theorem need1 (t : Tr) : need t 1 = decide (kindOf t = 5) := by simp [need]
theorem need2 (t : Tr) : need t 2 = (decide (kindOf t = 5) || decide (kindOf t = 6)) := by simp [need]
/-- a type's text, by both -/
def Txt (t : Tr) (v : List UInt8) : Prop := (∀ level : Int, Ev (fun K => ptype_write K t level) (par (need t level) v)) ∧ Ev (fun K => ref06_Text K t) v ∧ v.length ≤ 200 * t.w
theorem ev_paren (b : Bool) (s : List UInt8) (hs : s.length ≤ 1099511627776) : Ev (fun K => ptype_paren K b s) (par b s) := by
  refine Ev.congr (f := fun K => _) ?_ (fun k => by rw [ptype_paren])
  unfold par
  cases b
  · exact Ev.isF rfl Ev.pure
  · exact Ev.isT rfl (Ev.opt (catS_ok (by simp; omega)) (Ev.opt (catS_ok (by simp; omega)) Ev.pure))
theorem ev_within (t : Tr) (b : Bool) (v : List UInt8) (h : Ev (fun K => ref06_Text K t) v) (hs : v.length ≤ 1099511627776) : Ev (fun K => ref06_within K t b) (par b v) := by
  refine Ev.step (fun k => by rw [ref06_within]) ?_
  unfold par
  cases b
  · exact Ev.isF rfl (Ev.ret h)
  · exact Ev.isT rfl (Ev.bind h (Ev.opt (catS_ok (by simp; omega)) (Ev.opt (catS_ok (by simp; omega)) Ev.pure)))
theorem ck_len {s : List UInt8} (h : ckS s = true) : s.length ≤ 32 := by
  unfold ckS nmS at h
  simp only [Bool.and_eq_true, decide_eq_true_eq] at h
  exact h.1.2.1
theorem lg_len {s : List UInt8} (h : lgS s = true) : s.length ≤ 128 := by
  unfold lgS at h
  simp only [Bool.and_eq_true, decide_eq_true_eq] at h
  exact h.1
theorem k2S_form {p q : Tr → Bool} {l : List Tr} (h : k2S p q l = true) : ∃ x y, l = [x, y] ∧ p x = true ∧ q y = true := by
  match l, h with
  | [x, y], h => exact ⟨x, y, rfl, by simpa [k2S] using h⟩
theorem k1S_form {p : Tr → Bool} {l : List Tr} (h : k1S p l = true) : ∃ x, l = [x] ∧ p x = true := by
  match l, h with
  | [x], h => exact ⟨x, rfl, by simpa [k1S] using h⟩
theorem kind1 {k n : Int} {nm mk : List UInt8} {ks : List Tr} (h : isT 1 (.node k n nm mk ks) = true) : k = 1 ∨ k = 2 ∨ k = 3 ∨ k = 4 ∨ k = 5 ∨ k = 6 ∨ k = 7 := by
  by_cases e : k ∈ kindsOf 1
  · simpa [show kindsOf 1 = [1, 2, 3, 4, 5, 6, 7] from rfl] using e
  · rw [isT_none e] at h; cases h
theorem node_of {c : Int} {t : Tr} (h : isT c t = true) : ∃ k n nm mk ks, t = .node k n nm mk ks := by
  cases t with
  | nil => rw [isT_nil] at h; cases h
  | node k n nm mk ks => exact ⟨k, n, nm, mk, ks, rfl⟩

/-- a constructor's text, by both -/
def Con (x : Tr) (c : List UInt8) : Prop := ∃ k n nm mk y v, x = .node k n nm mk [y] ∧ (∀ level : Int, Ev (fun K => ptype_write K y level) (par (need y level) v)) ∧ Ev (fun K => ref06_Text K y) v ∧
  c = nm ++ [32, 111, 102, 32] ++ v ∧ nm.length ≤ 32 ∧ v.length ≤ 200 * y.w
inductive Cons2 : List Tr → List (List UInt8) → Prop
  | nil : Cons2 [] []
  | cons {x c ks L} (h : Con x c) (t : Cons2 ks L) : Cons2 (x :: ks) (c :: L)
theorem Con.len {x : Tr} {c : List UInt8} (h : Con x c) : c.length + 3 ≤ 200 * x.w := by
  obtain ⟨k, n, nm, mk, y, v, rfl, _, _, rfl, h1, h2⟩ := h
  rw [w_node, wL_cons, wL_nil]
  simp; omega
theorem Cons2.len {ks : List Tr} {L : List (List UInt8)} (h : Cons2 ks L) : L.length = ks.length := by
  induction h with
  | nil => rfl
  | cons _ _ ih => simp [ih]
theorem Cons2.get {ks : List Tr} {L : List (List UInt8)} (h : Cons2 ks L) : ∀ (i : Nat) (h1 : i < ks.length) (h2 : i < L.length), Con ks[i] L[i] := by
  induction h with
  | nil => intro i h1; simp at h1
  | cons hc _ ih =>
    intro i h1 h2
    cases i with
    | zero => exact hc
    | succ i => exact ih i (by simpa using h1) (by simpa using h2)
abbrev bar : List UInt8 := [32, 124, 32]
theorem Cons2.tail {ks : List Tr} {L : List (List UInt8)} (h : Cons2 ks L) : (Lib.joinTail bar L).length ≤ 200 * wL ks := by
  induction h with
  | nil => simp [Lib.joinTail]
  | @cons x c ks L hc _ ih =>
    have h1 := hc.len
    rw [wL_cons]
    have : Lib.joinTail bar (c :: L) = bar ++ c ++ Lib.joinTail bar L := by simp [Lib.joinTail]
    rw [this]
    simp only [List.length_append, List.length_cons, List.length_nil]
    omega
theorem Cons2.join {ks : List Tr} {L : List (List UInt8)} (h : Cons2 ks L) : (Lib.join L bar).length ≤ 200 * wL ks := by
  cases h with
  | nil => simp [Lib.join_nil]
  | @cons x c ks L hc ht =>
    rw [Lib.join_cons, wL_cons, List.length_append]
    have h1 := hc.len
    have h2 := ht.tail
    omega
theorem join_snoc (l : List (List UInt8)) (c : List UInt8) : Lib.join (l ++ [c]) bar = if l = [] then c else Lib.join l bar ++ bar ++ c := by
  cases l with
  | nil => rw [List.nil_append, Lib.join_one, if_pos rfl]
  | cons x r =>
    rw [List.cons_append, Lib.join_cons, Lib.join_cons, if_neg (by simp)]
    simp [Lib.joinTail]
theorem join_take_len {ks : List Tr} {L : List (List UInt8)} (h : Cons2 ks L) (i : Nat) : (Lib.join (L.take i) bar).length ≤ 200 * wL ks := by
  have gen : ∀ (i : Nat), Cons2 (ks.take i) (L.take i) := by
    induction h with
    | nil => intro i; simp; exact .nil
    | cons hc _ ih =>
      intro i
      cases i with
      | zero => exact .nil
      | succ i => exact .cons hc (ih i)
  have h1 := (gen i).join
  have h2 := wL_append (ks.take i) (ks.drop i)
  rw [List.take_append_drop] at h2
  omega

section
variable {k n : Int} {nm mk : List UInt8} {ks : List Tr} {L : List (List UInt8)} (hc : Cons2 ks L) (hw : wL ks ≤ 1048576) (hnm : nm.length ≤ 32)
include hc hw hnm
theorem ev_mu_write : ∀ (m i : Nat), ks.length = i + m → Ev (fun K => ptype_write_l0 K (.node k n nm mk ks) (L.take i) ks (i : Int)) ([109, 117, 32] ++ nm ++ [32, 123, 32] ++ Lib.join L bar ++ [32, 125]) := by
  have hl := wL_len ks
  have hlen := hc.len
  intro m
  induction m with
  | zero =>
    intro i hi
    have hj : (Lib.join L [32, 124, 32]).length ≤ 200 * wL ks := hc.join
    have hj' := hc.join
    rw [List.take_of_length_le (by omega)]
    refine Ev.step (fun k => by rw [ptype_write_l0]) ?_
    refine Ev.dF (by omega) (Ev.opt (catS_ok (by simp; omega)) (Ev.opt (catS_ok (by simp; omega)) (Ev.bind (a := Lib.join L bar) ⟨0, fun K _ => ?_⟩ (Ev.opt (catS_ok (by simp; omega)) (Ev.opt (catS_ok (by simp; omega)) Ev.pure)))))
    show (if _ then _ else _) = _
    rw [if_pos ⟨by omega, by omega⟩]
  | succ m ih =>
    intro i hi
    have hlt : i < ks.length := by omega
    have hlt' : i < L.length := by omega
    obtain ⟨k', n', nm', mk', y, v, e1, e2, _, e4, e5, e6⟩ := hc.get i hlt hlt'
    have hx := wL_mem (List.getElem_mem hlt)
    rw [e1, w_node, wL_cons, wL_nil] at hx
    refine Ev.step (fun k => by rw [ptype_write_l0]) ?_
    refine Ev.dT (by omega) (Ev.opt (getI_lt hlt) ?_)
    rw [e1]
    have w0 := e2 0
    rw [need0] at w0
    refine Ev.opt (catS_ok (by simp; omega)) (Ev.opt (a := y) rfl (Ev.bind w0 (Ev.opt (catS_ok (by simp [par]; omega)) (Ev.opt (appL_ok (by simp; omega)) ?_))))
    rw [wrap_nat (by omega)]
    have := ih (i + 1) (by omega)
    rw [take_get' hlt', e4] at this
    exact this
theorem ev_mu_text : ∀ (m i : Nat), ks.length = i + m → Ev (fun K => ref06_Text_l0 K (.node k n nm mk ks) ([109, 117, 32] ++ nm ++ [32, 123, 32] ++ Lib.join (L.take i) bar) (i : Int)) ([109, 117, 32] ++ nm ++ [32, 123, 32] ++ Lib.join L bar ++ [32, 125]) := by
  have hl := wL_len ks
  have hlen := hc.len
  intro m
  induction m with
  | zero =>
    intro i hi
    have hj := hc.join
    rw [List.take_of_length_le (by omega)]
    refine Ev.step (fun k => by rw [ref06_Text_l0]) ?_
    exact Ev.dF (by omega) (Ev.opt (catS_ok (by simp; omega)) Ev.pure)
  | succ m ih =>
    intro i hi
    have hlt : i < ks.length := by omega
    have hlt' : i < L.length := by omega
    have hj := join_take_len hc i
    obtain ⟨k', n', nm', mk', y, v, e1, _, e3, e4, e5, e6⟩ := hc.get i hlt hlt'
    have hx := wL_mem (List.getElem_mem hlt)
    have hg := getI_lt hlt
    rw [e1] at hg
    rw [e1, w_node, wL_cons, wL_nil] at hx
    have c1 : ∀ s : List UInt8, s.length ≤ 1099511627776 → s ++ L[i] = [109, 117, 32] ++ nm ++ [32, 123, 32] ++ Lib.join (L.take (i + 1)) bar → Ev (fun K => ref06_Text_c1 K (.node k n nm mk ks) s (i : Int)) ([109, 117, 32] ++ nm ++ [32, 123, 32] ++ Lib.join L bar ++ [32, 125]) := fun s hs he => by
      refine Ev.step (fun k => by rw [ref06_Text_c1]) ?_
      refine Ev.opt hg (Ev.opt (catS_ok (by omega)) (Ev.opt (catS_ok (by simp; omega)) (Ev.opt hg (Ev.opt (a := y) rfl (Ev.bind e3 (Ev.opt (catS_ok (by simp; omega)) ?_))))))
      rw [wrap_nat (by omega)]
      have := ih (i + 1) (by omega)
      rw [← he, e4] at this
      simpa using this
    have sn := join_snoc (L.take i) L[i]
    rw [← take_get' hlt'] at sn
    refine Ev.step (fun k => by rw [ref06_Text_l0]) ?_
    refine Ev.dT (by omega) (Ev.d (fun h => ?_) (fun h => ?_))
    · refine Ev.opt (catS_ok (by simp; omega)) (c1 _ (by simp; omega) ?_)
      have hne : L.take i ≠ [] := fun e => by
        have : (L.take i).length = 0 := by rw [e]; rfl
        rw [List.length_take] at this
        omega
      rw [sn, if_neg hne]; simp
    · have e : i = 0 := by omega
      subst e
      refine c1 _ (by rw [List.take_zero, Lib.join_nil]; simp; omega) ?_
      rw [sn]; simp [Lib.join_nil]
end

theorem txt_all : ∀ t : Tr, Good t → t.w ≤ 1048576 → (isT 1 t = true → ∃ v, Txt t v) ∧ (∀ y ∈ (match t with | .nil => [] | .node _ _ _ _ l => l), isT 1 y = true → ∃ v, Txt y v) := Tr.ind
  (fun h => by cases h)
  fun k n nm mk ks ih h hw => by
    cases h with
    | mk g1 g2 g3 g4 =>
      rw [w_node] at hw
      have kid : ∀ y ∈ ks, isT 1 y = true → ∃ v, Txt y v := fun y hy => (ih y hy (g4 y hy) (by have := wL_mem hy; omega)).1
      refine ⟨fun hi => ?_, kid⟩
      rcases kind1 hi with rfl | rfl | rfl | rfl | rfl | rfl | rfl
      · refine ⟨[105, 110, 116], fun level => ?_, ?_, by rw [w_node]; simp; omega⟩
        · refine Ev.step (fun k => by rw [ptype_write]) ?_
          exact Ev.dF (by decide) (Ev.dF (by decide) (Ev.dT rfl (Ev.pure' (by simp [par, need, kindOf]))))
        · refine Ev.step (fun k => by rw [ref06_Text]) ?_
          exact Ev.dT (by decide) (Ev.opt (a := [105, 110, 116]) rfl Ev.pure)
      · refine ⟨[98, 111, 111, 108], fun level => ?_, ?_, by rw [w_node]; simp; omega⟩
        · refine Ev.step (fun k => by rw [ptype_write]) ?_
          exact Ev.dF (by decide) (Ev.dF (by decide) (Ev.dF (by decide) (Ev.dT rfl (Ev.pure' (by simp [par, need, kindOf])))))
        · refine Ev.step (fun k => by rw [ref06_Text]) ?_
          exact Ev.dT (by decide) (Ev.opt (a := [98, 111, 111, 108]) rfl Ev.pure)
      · refine ⟨[117, 110, 105, 116], fun level => ?_, ?_, by rw [w_node]; simp; omega⟩
        · refine Ev.step (fun k => by rw [ptype_write]) ?_
          exact Ev.dF (by decide) (Ev.dF (by decide) (Ev.dF (by decide) (Ev.dF (by decide) (Ev.dT rfl (Ev.pure' (by simp [par, need, kindOf]))))))
        · refine Ev.step (fun k => by rw [ref06_Text]) ?_
          exact Ev.dT (by decide) (Ev.opt (a := [117, 110, 105, 116]) rfl Ev.pure)
      · rw [isT_row (r := (1, 4, [108], [], 0, 0, [])) rfl] at hi
        simp only [bodyS, wordS_l, Bool.and_eq_true] at hi
        have hl := lg_len hi.1
        refine ⟨nm, fun level => ?_, ?_, by rw [w_node]; omega⟩
        · refine Ev.step (fun k => by rw [ptype_write]) ?_
          exact Ev.dF (by decide) (Ev.dF (by decide) (Ev.dF (by decide) (Ev.dF (by decide) (Ev.dF (by decide) (Ev.dF (by decide) (Ev.pure' (by simp [par, need, kindOf])))))))
        · refine Ev.step (fun k => by rw [ref06_Text]) ?_
          exact Ev.dF (by decide) (Ev.dT rfl Ev.pure)
      · rw [isT_row (r := (1, 5, [], [], 0, 0, [116, 116])) rfl] at hi
        simp only [bodyS, Bool.and_eq_true, kidsS_2 (a := 116) (b := 116) (c := 1) (d := 1) (by decide) (by decide) (by decide) (by decide) (by decide) (by decide) rfl rfl] at hi
        obtain ⟨x, y, rfl, hx, hy⟩ := k2S_form hi.2.2.2.2
        obtain ⟨vx, x1, x2, x3⟩ := kid x (by simp) hx
        obtain ⟨vy, y1, y2, y3⟩ := kid y (by simp) hy
        obtain ⟨kx, nx, nmx, mkx, ksx, ex⟩ := node_of hx
        have wx := w_pos x
        rw [wL_cons, wL_cons, wL_nil] at hw
        have px := par_len (decide (kindOf x = 5)) vx
        have w1 := x1 1
        have w2 := y1 0
        rw [need1] at w1
        rw [need0] at w2
        refine ⟨par (decide (kindOf x = 5)) vx ++ [32, 45, 62, 32] ++ vy, fun level => ?_, ?_, by rw [w_node, wL_cons, wL_cons, wL_nil]; simp; omega⟩
        · refine Ev.step (fun k => by rw [ptype_write]) ?_
          refine Ev.dT rfl (Ev.opt (a := x) rfl (Ev.opt (a := y) rfl (Ev.bind w1 (Ev.opt (catS_ok (by simp; omega)) (Ev.bind w2 (Ev.opt (catS_ok (by rw [show par false vy = vy from rfl]; simp; omega)) (Ev.ret (Ev.cast (ev_paren _ _ (by rw [show par false vy = vy from rfl]; simp; omega)) ?_))))))))
          simp [need, kindOf, show par false vy = vy from rfl]
        · refine Ev.step (fun k => by rw [ref06_Text]) ?_
          have wi := ev_within x (decide (kindOf x = 5)) vx x2 (by omega)
          subst ex
          refine Ev.dF (by decide) (Ev.dF (by decide) (Ev.dT rfl ?_))
          refine Ev.opt (a := .node kx nx nmx mkx ksx) rfl ?_
          refine Ev.opt (a := .node kx nx nmx mkx ksx) rfl ?_
          refine Ev.opt (a := y) rfl ?_
          exact Ev.bind wi (Ev.opt (catS_ok (by simp; omega)) (Ev.bind y2 (Ev.opt (catS_ok (by simp; omega)) Ev.pure)))
      · rw [isT_row (r := (1, 6, [], [], 0, 0, [116, 116])) rfl] at hi
        simp only [bodyS, Bool.and_eq_true, kidsS_2 (a := 116) (b := 116) (c := 1) (d := 1) (by decide) (by decide) (by decide) (by decide) (by decide) (by decide) rfl rfl] at hi
        obtain ⟨x, y, rfl, hx, hy⟩ := k2S_form hi.2.2.2.2
        obtain ⟨vx, x1, x2, x3⟩ := kid x (by simp) hx
        obtain ⟨vy, y1, y2, y3⟩ := kid y (by simp) hy
        obtain ⟨kx, nx, nmx, mkx, ksx, ex⟩ := node_of hx
        obtain ⟨ky, ny, nmy, mky, ksy, ey⟩ := node_of hy
        have wx := w_pos x
        have wy := w_pos y
        rw [wL_cons, wL_cons, wL_nil] at hw
        have px := par_len (decide (kindOf x = 5) || decide (kindOf x = 6)) vx
        have py := par_len (decide (kindOf y = 5)) vy
        have w1 := x1 2
        have w2 := y1 1
        rw [need2] at w1
        rw [need1] at w2
        refine ⟨par (decide (kindOf x = 5) || decide (kindOf x = 6)) vx ++ [32, 42, 32] ++ par (decide (kindOf y = 5)) vy, fun level => ?_, ?_, by rw [w_node, wL_cons, wL_cons, wL_nil]; simp; omega⟩
        · refine Ev.step (fun k => by rw [ptype_write]) ?_
          refine Ev.dF (by decide) (Ev.dT rfl (Ev.opt (a := x) rfl (Ev.opt (a := y) rfl (Ev.bind w1 (Ev.opt (catS_ok (by simp; omega)) (Ev.bind w2 (Ev.opt (catS_ok (by simp; omega)) (Ev.ret (Ev.cast (ev_paren _ _ (by simp; omega)) ?_)))))))))
          simp [need, kindOf]
        · refine Ev.step (fun k => by rw [ref06_Text]) ?_
          refine Ev.dF (by decide) (Ev.dF (by decide) (Ev.dF (by decide) ?_))
          refine Ev.step (fun k => by rw [ref06_Text_c0]) ?_
          have wi := ev_within x (decide (kindOf x = 5) || decide (kindOf x = 6)) vx x2 (by omega)
          have wj := ev_within y (decide (kindOf y = 5)) vy y2 (by omega)
          subst ex ey
          refine Ev.dT rfl ?_
          refine Ev.opt (a := .node kx nx nmx mkx ksx) rfl ?_
          refine Ev.opt (a := .node ky ny nmy mky ksy) rfl ?_
          refine Ev.d (fun e => ?_) (fun e => ?_)
          · rw [show (decide (kindOf (.node kx nx nmx mkx ksx) = 5) || decide (kindOf (.node kx nx nmx mkx ksx) = 6)) = true from by
              show (decide (kx = 5) || _) = true
              rw [decide_eq_true e]; rfl]
            have pl := par_len true vx
            exact Ev.bind (ev_within _ true vx x2 (by omega)) (Ev.opt (catS_ok (by simp; omega)) (Ev.bind wj (Ev.opt (catS_ok (by simp; omega)) Ev.pure)))
          · rw [show (decide (kindOf (.node kx nx nmx mkx ksx) = 5) || decide (kindOf (.node kx nx nmx mkx ksx) = 6)) = decide (kx = 6) from by
              show (decide (kx = 5) || decide (kx = 6)) = _
              rw [decide_eq_false e]; rfl]
            have pl := par_len (decide (kx = 6)) vx
            exact Ev.bind (ev_within _ (decide (kx = 6)) vx x2 (by omega)) (Ev.opt (catS_ok (by simp; omega)) (Ev.bind wj (Ev.opt (catS_ok (by simp; omega)) Ev.pure)))
      · rw [isT_row (r := (1, 7, [110], [], 0, 0, [67])) rfl] at hi
        have e67 : kidsS isT [67] ks = (consGo (isT 8) [] ks && decide (0 < ks.length)) := rfl
        simp only [bodyS, wordS_n, Bool.and_eq_true, e67] at hi
        have hn := ck_len hi.1
        have hcs : ∀ (l : List Tr) (s : List (List UInt8)), (∀ x ∈ l, x ∈ ks) → consGo (isT 8) s l = true → ∃ L, Cons2 l L := by
          intro l
          induction l with
          | nil => intro s _ _; exact ⟨[], .nil⟩
          | cons x l ihl =>
            intro s hm hcg
            unfold consGo at hcg
            simp only [Bool.and_eq_true] at hcg
            obtain ⟨L, hL⟩ := ihl _ (fun z hz => hm z (List.mem_cons_of_mem _ hz)) hcg.2.2
            obtain ⟨kx, nx, nmx, mkx, ksx, rfl⟩ := node_of hcg.1
            have h8 := hcg.1
            rw [isT_con] at h8
            simp only [Bool.and_eq_true] at h8
            obtain ⟨y, rfl, hy⟩ := k1S_form h8.2.2.2
            have hxm := hm _ List.mem_cons_self
            obtain ⟨v, v1, v2, v3⟩ := (ih _ hxm (g4 _ hxm) (by have := wL_mem hxm; omega)).2 y (by simp) hy
            exact ⟨_, .cons ⟨kx, nx, nmx, mkx, y, v, rfl, v1, v2, rfl, ck_len h8.2.2.1, v3⟩ hL⟩
        obtain ⟨L, hL⟩ := hcs ks [] (fun x hx => hx) hi.2.2.2.2.1
        have hj := hL.join
        refine ⟨[109, 117, 32] ++ nm ++ [32, 123, 32] ++ Lib.join L bar ++ [32, 125], fun level => ?_, ?_, by rw [w_node]; simp; omega⟩
        · refine Ev.step (fun k => by rw [ptype_write]) ?_
          refine Ev.dF (by decide) (Ev.dF (by decide) (Ev.dF (by decide) (Ev.dF (by decide) (Ev.dF (by decide) (Ev.dT rfl (Ev.cast (ev_mu_write hL (by omega) hn ks.length 0 (by omega)) ?_))))))
          simp [par, need, kindOf]
        · refine Ev.step (fun k => by rw [ref06_Text]) ?_
          refine Ev.dF (by decide) (Ev.dF (by decide) (Ev.dF (by decide) ?_))
          refine Ev.step (fun k => by rw [ref06_Text_c0]) ?_
          refine Ev.dF (by decide) (Ev.opt (catS_ok (by simp; omega)) (Ev.opt (catS_ok (by simp; omega)) ?_))
          have := ev_mu_text hL (k := 7) (n := n) (mk := mk) (nm := nm) (by omega) hn ks.length 0 (by omega)
          simpa [Lib.join_nil] using this

/-- The plain law PtypeWrites. -/
theorem law06_PtypeWrites_true (l : List Cell) : ∃ K, law06_PtypeWrites K l = some true := by
  refine Ev.get (f := fun K => law06_PtypeWrites K l) ?_
  refine Ev.congr (f := fun K => _) ?_ (fun k => by rw [law06_PtypeWrites])
  refine Ev.bind (ev_few l) (Ev.bind (ev_ropen (kids_few l)) ?_)
  have hf := fine_open l
  have hw := openT_w (fewL l)
  generalize (openT (fewL l)) = o at *
  obtain ⟨t, e⟩ := o
  simp only at hf hw
  have w1 : ∃ v, Ev (fun K => ptype_Write K t) v ∧ Ev (fun K => ref06_Write K t) v := by
    by_cases h0 : chk 1 t = 0
    · have hi : isT 1 t = true ∧ fullT t = true := by
        unfold chk at h0
        by_cases h1 : (packT t).2 = 0
        · rw [if_pos h1] at h0
          by_cases h2 : 60 < deepT t
          · rw [if_pos h2] at h0; cases h0
          · rw [if_neg h2] at h0
            cases hi : isT 1 t with
            | false => rw [hi] at h0; cases h0
            | true => exact ⟨rfl, pack_full h1⟩
        · rw [if_neg h1] at h0; exact absurd h0 h1
      obtain ⟨v, v1, v2, v3⟩ := (txt_all t (hf.2 hi.2) (by omega)).1 hi.1
      have v0 := v1 0
      rw [need0] at v0
      refine ⟨(v, 0), ?_, ?_⟩
      · exact Ev.congr (f := fun K => _) (Ev.bind (ev_Type hf) (Ev.nF h0 (Ev.bind v0 (Ev.pure' rfl)))) (fun _ => rfl)
      · exact Ev.congr (f := fun K => _) (Ev.bind (ev_Check hf 1) (Ev.nF h0 (Ev.bind v2 Ev.pure))) (fun _ => rfl)
    · refine ⟨([], chk 1 t), ?_, ?_⟩
      · exact Ev.congr (f := fun K => _) (Ev.bind (ev_Type hf) (Ev.nT h0 Ev.pure)) (fun _ => rfl)
      · exact Ev.congr (f := fun K => _) (Ev.bind (ev_Check hf 1) (Ev.nT h0 Ev.pure)) (fun _ => rfl)
  obtain ⟨⟨v, c⟩, h1, h2⟩ := w1
  exact Ev.bind h1 (Ev.bind h2 (Ev.dT rfl (Ev.dT rfl (Ev.ret ev_works6))))
end Go.Proofs.YtojooakojnelbaaGreatDoor

