/- That the Go functions come to the printed Lean functions, whatever they are handed: each walk under no condition but that the Lean function answers. Printed by gen.py of this session. -/
import Derived.Test.YthkaeeadihplcaaGOk1
namespace Go.Proofs.Ythkaeeadihplcaa
open Go Go.Am
def ref04_hole_S (K : Nat) : Prop := ∀ (p0 : Tr) (r : Bool), ref04_hole K p0 = some r → ACalls Try.prog 36 [(.tree p0)] [] (fun av s => av = (.b r) ∧ s = [])
theorem ref04_hole_step (K : Nat) (IH : ∀ j, j < K → ref04_hole_S j) : ref04_hole_S K := by
  intro p0 r h
  cases K with
  | zero => cases h
  | succ k0 =>
  refine acalls_enter Try.func36 rfl rfl ?_
  refine aw_seq ?_
  refine aw_normal [(0, (.tree p0))] (s' := []) (by kernel_rfl) rfl ?_
  refine aw_reg ?_
  refine at_run tt_ok 1 [(0, (.tree p0))] rfl (by kernel_rfl) ?_
  refine at_end rfl ?_
  refine aw_seq ?_
  refine aw_seq ?_
  refine aw_reg ?_
  refine at_run tt_ok 1 [(0, (.tree p0)), (4, (.tree p0))] rfl (by kernel_rfl) ?_
  cases p0 with
  | nil =>
    refine at_run tt_ok 2 [(0, (.tree (.nil))), (5, (.b true))] rfl (by kernel_rfl) ?_
    refine at_end rfl ?_
    refine aw_cond true rfl (fun _ => ?_) (fun h => by cases h)
    refine aw_seq ?_
    refine aw_reg ?_
    refine at_run tt_ok 1 [(2, (.b true))] rfl (by kernel_rfl) ?_
    refine at_end rfl ?_
    refine aw_ret ?_
    obtain rfl := Option.some.inj h
    exact ⟨(.b true), (.b true), _, (res_tmps (by kernel_rfl)), (View.refl _), ⟨_, perm_sel _ [], List.take_sublist 0 _⟩, rfl, rfl⟩
  | node n1 n2 n3 n4 n5 =>
    refine at_run tt_ok 2 [(0, (.tree ((.node n1 n2 n3 n4 n5)))), (5, (.b false))] rfl (by kernel_rfl) ?_
    refine at_end rfl ?_
    refine aw_cond false rfl (fun h => by cases h) (fun _ => ?_)
    refine aw_skip ?_
    refine aw_seq ?_
    refine aw_seq ?_
    refine aw_reg ?_
    refine at_run tt_ok 1 [(0, (.tree ((.node n1 n2 n3 n4 n5)))), (3, (.i 0))] rfl (by kernel_rfl) ?_
    refine at_end rfl ?_
    refine aw_block ?_
    refine aw_loop_ind' (X := Int) (fun k' x => k' ≤ k0 ∧ ref04_hole_l0 k' n1 n2 n3 n4 n5 x = some r) (fun x => [(0, (.tree ((.node n1 n2 n3 n4 n5)))), (3, (.i x))]) (fun x => []) (fun x hx => by cases hx.2) ?_ k0 0 ⟨Nat.le_refl _, h⟩ (by kernel_rfl) rfl
    clear h
    rintro k8 w0_1 ⟨hlek8, h⟩
    refine aw_seq ?_
    refine aw_seq ?_
    refine aw_reg ?_
    refine at_run tt_ok 7 [(0, (.tree ((.node n1 n2 n3 n4 n5)))), (3, (.i w0_1)), (12, (.b ((decide (w0_1 < (((n5.length : Nat) : Int)))))))] rfl (by kernel_rfl) ?_
    refine at_end rfl ?_
    refine aw_cond ((decide (w0_1 < (((n5.length : Nat) : Int))))) rfl (fun hb9 => ?_) (fun hb9 => ?_)
    · have h := ite_t hb9 h
      refine aw_skip ?_
      refine aw_seq ?_
      refine aw_block ?_
      refine aw_seq ?_
      refine aw_reg ?_
      refine at_run tt_ok 5 [(0, (.tree ((.node n1 n2 n3 n4 n5)))), (3, (.i w0_1)), (18, (.slc (n5.map AV.tree) n5.length false)), (19, (.i w0_1))] rfl (by kernel_rfl) ?_
      obtain ⟨v10, hv10, h⟩ := bind_some' h
      refine at_one rfl rfl rfl (aop_idx1 (k := .i64) (g := AV.tree) (l := n5) (fu := false) (j := w0_1) (v := v10) tt_ok rfl rfl rfl rfl rfl hv10) ?_
      refine at_run tt_ok 7 [(0, (.tree ((.node n1 n2 n3 n4 n5)))), (3, (.i w0_1)), (21, (.tree v10))] rfl (by kernel_rfl) ?_
      obtain ⟨v11, hc12, h⟩ := bind_some' h
      refine at_op rfl rfl rfl (aop_call (first := []) (caps := []) (xs := [(.tree v10)]) (args' := [(.tree v10)]) (sm := []) (r := []) rfl (by kernel_rfl) Try.func36 rfl rfl ((IH k8 (by omega)) v10 _ hc12) (by kernel_rfl) (VW.refl _) (permTo [] (by kernel_rfl))) ?_
      rintro _ _ ⟨_, ⟨rfl, rfl⟩, rfl⟩
      refine at_end rfl ?_
      refine aw_normal [(0, (.tree ((.node n1 n2 n3 n4 n5)))), (3, (.i w0_1)), (22, (.b v11))] (s' := []) (by kernel_rfl) rfl ?_
      refine aw_cond v11 rfl (fun hb13 => ?_) (fun hb13 => ?_)
      · have h := ite_t hb13 h
        refine aw_seq ?_
        refine aw_reg ?_
        refine at_run tt_ok 1 [(2, (.b true))] rfl (by kernel_rfl) ?_
        refine at_end rfl ?_
        refine aw_ret ?_
        obtain rfl := Option.some.inj h
        exact ⟨(.b true), (.b true), _, (res_tmps (by kernel_rfl)), (View.refl _), ⟨_, perm_sel _ [], List.take_sublist 0 _⟩, rfl, rfl⟩
      · have h := ite_f (by rw [hb13]; simp) h
        refine aw_skip ?_
        refine aw_reg ?_
        refine at_run tt_ok 3 [(0, (.tree ((.node n1 n2 n3 n4 n5)))), (3, (.i ((IntKind.i64.wrap (w0_1 + 1)))))] rfl (by kernel_rfl) ?_
        refine at_end rfl ?_
        exact ⟨k8, (IntKind.i64.wrap (w0_1 + 1)), [], [], by omega, ⟨by omega, h⟩, by kernel_rfl, rfl⟩
    · have h := ite_f (by rw [hb9]; simp) h
      refine aw_exit ?_
      refine aw_seq ?_
      refine aw_reg ?_
      refine at_run tt_ok 1 [(2, (.b false))] rfl (by kernel_rfl) ?_
      refine at_end rfl ?_
      refine aw_ret ?_
      obtain rfl := Option.some.inj h
      exact ⟨(.b false), (.b false), _, (res_tmps (by kernel_rfl)), (View.refl _), ⟨_, perm_sel _ [], List.take_sublist 0 _⟩, rfl, rfl⟩
theorem ref04_hole_all (K : Nat) : ref04_hole_S K := by
  induction K using Nat.strongRecOn with
  | _ K IH => exact ref04_hole_step K IH
theorem ref04_hole_ok (K : Nat) : ∀ (p0 : Tr) (r : Bool), ref04_hole K p0 = some r → ACalls Try.prog 36 [(.tree p0)] [] (fun av s => av = (.b r) ∧ s = []) := (ref04_hole_all K)
theorem ref04_Pack_ok (K : Nat) : ∀ (p0 : Tr) (r : (List S_Cell) × Int), ref04_Pack K p0 = some r → ACalls Try.prog 21 [(.tree p0)] [] (fun av s => av = (.tup [(.agg [(.slc (r.1.flatMap S_Cell.cs) r.1.length false)]), (.i r.2)]) ∧ s = []) := by
  intro p0 r h
  refine acalls_enter Try.func21 rfl rfl ?_
  refine aw_seq ?_
  refine aw_normal [(0, (.tree p0))] (s' := []) (by kernel_rfl) rfl ?_
  refine aw_reg ?_
  refine at_op rfl rfl rfl (aop_alloc (zs := [(.slice none 0 0)]) tt_ok rfl rfl rfl) ?_
  rintro _ _ ⟨o1, rfl, rfl⟩
  refine at_run tt_ok 2 [(0, (.tree p0)), (2, (.ref o1 0))] rfl (by kernel_rfl) ?_
  refine at_end rfl ?_
  refine aw_seq ?_
  refine aw_seq ?_
  refine aw_reg ?_
  refine at_run tt_ok 1 [(0, (.tree p0)), (2, (.ref o1 0)), (4, (.tree p0))] rfl (by kernel_rfl) ?_
  obtain ⟨v2, hc3, h⟩ := bind_some' h
  refine at_op rfl rfl rfl (aop_call (first := []) (caps := []) (xs := [(.tree p0)]) (args' := [(.tree p0)]) (sm := []) (r := [(o1, .row 24 1 [(.lit (.slice none 0 0))] 0)]) rfl (by kernel_rfl) Try.func36 rfl rfl (ref04_hole_ok K p0 _ hc3) (by kernel_rfl) (VW.refl _) (permTo [] (by kernel_rfl))) ?_
  rintro _ _ ⟨_, ⟨rfl, rfl⟩, rfl⟩
  refine at_end rfl ?_
  refine aw_normal [(0, (.tree p0)), (2, (.ref o1 0)), (5, (.b v2))] (s' := [(o1, .row 24 1 [(.lit (.slice none 0 0))] 0)]) (by kernel_rfl) rfl ?_
  refine aw_cond v2 rfl (fun hb4 => ?_) (fun hb4 => ?_)
  · have h := ite_t hb4 h
    refine aw_seq ?_
    refine aw_reg ?_
    refine at_run tt_ok 1 [(2, (.ref o1 0)), (6, (.agg [(.lit (.slice none 0 0))]))] rfl (by kernel_rfl) ?_
    refine at_one rfl rfl rfl (aop_storeRef (id := o1) (off := 0) (j := 0) (ds := [(.lit (.slice none 0 0))]) tt_ok rfl rfl rfl rfl rfl) ?_
    refine at_run tt_ok 3 [(2, (.ref o1 0)), (3, (.i 1))] rfl (by kernel_rfl) ?_
    refine at_end rfl ?_
    refine aw_ret ?_
    obtain rfl := Option.some.inj h
    exact ⟨(.tup [(.agg [(.lit (.slice none 0 0))]), (.i 1)]), (.tup [(.agg [(.slc ((([] : List S_Cell)).flatMap S_Cell.cs) (([] : List S_Cell)).length false)]), (.i 1)]), _, (res_two rfl (res1_cell (j := 0) (id := o1) (off := 0) (av := (.agg [(.lit (.slice none 0 0))])) tt_ok (by kernel_rfl) rfl (by kernel_rfl)) (res1_tmp (by kernel_rfl))), (View.tup (VW.cons (View.of_weak (Weak.agg (WL.cons (Weak.nil_slc false) WL.nil))) (VW.same VW.nil))), ⟨_, perm_sel _ [], List.take_sublist 0 _⟩, rfl, rfl⟩
  · have h := ite_f (by rw [hb4]; simp) h
    refine aw_skip ?_
    refine aw_seq ?_
    refine aw_seq ?_
    refine aw_reg ?_
    refine at_run tt_ok 1 [(0, (.tree p0)), (2, (.ref o1 0)), (7, (.tree p0))] rfl (by kernel_rfl) ?_
    obtain ⟨v5, hc6, h⟩ := bind_some' h
    refine at_op rfl rfl rfl (aop_call (first := []) (caps := []) (xs := [(.tree p0)]) (args' := [(.tree p0)]) (sm := []) (r := [(o1, .row 24 1 [(.lit (.slice none 0 0))] 0)]) rfl (by kernel_rfl) Try.func14 rfl rfl (ref04_Size_ok K p0 _ hc6) (by kernel_rfl) (VW.refl _) (permTo [] (by kernel_rfl))) ?_
    rintro _ _ ⟨_, ⟨rfl, rfl⟩, rfl⟩
    refine at_run tt_ok 3 [(0, (.tree p0)), (2, (.ref o1 0)), (9, (.b ((decide (8192 < v5)))))] rfl (by kernel_rfl) ?_
    refine at_end rfl ?_
    refine aw_cond ((decide (8192 < v5))) rfl (fun hb7 => ?_) (fun hb7 => ?_)
    · have h := ite_t hb7 h
      refine aw_seq ?_
      refine aw_reg ?_
      refine at_run tt_ok 1 [(2, (.ref o1 0)), (10, (.agg [(.lit (.slice none 0 0))]))] rfl (by kernel_rfl) ?_
      refine at_one rfl rfl rfl (aop_storeRef (id := o1) (off := 0) (j := 0) (ds := [(.lit (.slice none 0 0))]) tt_ok rfl rfl rfl rfl rfl) ?_
      refine at_run tt_ok 3 [(2, (.ref o1 0)), (3, (.i 3))] rfl (by kernel_rfl) ?_
      refine at_end rfl ?_
      refine aw_ret ?_
      obtain rfl := Option.some.inj h
      exact ⟨(.tup [(.agg [(.lit (.slice none 0 0))]), (.i 3)]), (.tup [(.agg [(.slc ((([] : List S_Cell)).flatMap S_Cell.cs) (([] : List S_Cell)).length false)]), (.i 3)]), _, (res_two rfl (res1_cell (j := 0) (id := o1) (off := 0) (av := (.agg [(.lit (.slice none 0 0))])) tt_ok (by kernel_rfl) rfl (by kernel_rfl)) (res1_tmp (by kernel_rfl))), (View.tup (VW.cons (View.of_weak (Weak.agg (WL.cons (Weak.nil_slc false) WL.nil))) (VW.same VW.nil))), ⟨_, perm_sel _ [], List.take_sublist 0 _⟩, rfl, rfl⟩
    · have h := ite_f (by rw [hb7]; simp) h
      refine aw_skip ?_
      refine aw_seq ?_
      refine aw_reg ?_
      refine at_run tt_ok 1 [(2, (.ref o1 0)), (11, (.tree p0))] rfl (by kernel_rfl) ?_
      obtain ⟨v8, hc9, h⟩ := bind_some' h
      refine at_op rfl rfl rfl (aop_call (first := []) (caps := []) (xs := [(.tree p0), (.i 0)]) (args' := [(.tree p0), (.i 0)]) (sm := []) (r := [(o1, .row 24 1 [(.lit (.slice none 0 0))] 0)]) rfl (by kernel_rfl) Try.func37 rfl rfl (ref04_cells_ok K p0 0 _ hc9) (by kernel_rfl) (VW.refl _) (permTo [] (by kernel_rfl))) ?_
      rintro _ _ ⟨_, ⟨rfl, rfl⟩, rfl⟩
      refine at_run tt_ok 3 [(2, (.ref o1 0)), (13, (.agg [(.slc (v8.flatMap S_Cell.cs) v8.length false)]))] rfl (by kernel_rfl) ?_
      refine at_one rfl rfl rfl (aop_storeRef (id := o1) (off := 0) (j := 0) (ds := [(.slc (v8.flatMap S_Cell.cs) v8.length false)]) tt_ok rfl rfl rfl rfl rfl) ?_
      refine at_run tt_ok 5 [(2, (.ref o1 0)), (3, (.i 0))] rfl (by kernel_rfl) ?_
      refine at_end rfl ?_
      refine aw_ret ?_
      obtain rfl := Option.some.inj h
      exact ⟨(.tup [(.agg [(.slc (v8.flatMap S_Cell.cs) v8.length false)]), (.i 0)]), (.tup [(.agg [(.slc (v8.flatMap S_Cell.cs) v8.length false)]), (.i 0)]), _, (res_two rfl (res1_cell (j := 0) (id := o1) (off := 0) (av := (.agg [(.slc (v8.flatMap S_Cell.cs) v8.length false)])) tt_ok (by kernel_rfl) rfl (by kernel_rfl)) (res1_tmp (by kernel_rfl))), (View.refl _), ⟨_, perm_sel _ [], List.take_sublist 0 _⟩, rfl, rfl⟩
theorem ref04_SameCells_ok (K : Nat) : ∀ (p0 : List S_Cell) (p1 : List S_Cell) (r : Bool), ref04_SameCells K p0 p1 = some r → ACalls Try.prog 22 [(.agg [(.slc (p0.flatMap S_Cell.cs) p0.length false)]), (.agg [(.slc (p1.flatMap S_Cell.cs) p1.length false)])] [] (fun av s => av = (.b r) ∧ s = []) := by
  intro p0 p1 r h
  refine acalls_enter Try.func22 rfl rfl ?_
  refine aw_seq ?_
  refine aw_normal [(0, (.agg [(.slc (p0.flatMap S_Cell.cs) p0.length false)])), (1, (.agg [(.slc (p1.flatMap S_Cell.cs) p1.length false)]))] (s' := []) (by kernel_rfl) rfl ?_
  refine aw_reg ?_
  refine at_run tt_ok 3 [(2, (.ptr [(.slc (p0.flatMap S_Cell.cs) p0.length false)])), (3, (.ptr [(.slc (p1.flatMap S_Cell.cs) p1.length false)]))] rfl (by kernel_rfl) ?_
  refine at_end rfl ?_
  refine aw_seq ?_
  refine aw_seq ?_
  refine aw_reg ?_
  refine at_run tt_ok 7 [(2, (.ptr [(.slc (p0.flatMap S_Cell.cs) p0.length false)])), (3, (.ptr [(.slc (p1.flatMap S_Cell.cs) p1.length false)])), (14, (.b ((!decide ((((p0.length : Nat) : Int)) = (((p1.length : Nat) : Int)))))))] rfl (by kernel_rfl) ?_
  refine at_end rfl ?_
  refine aw_cond ((!decide ((((p0.length : Nat) : Int)) = (((p1.length : Nat) : Int))))) rfl (fun hb1 => ?_) (fun hb1 => ?_)
  · have h := ite_t hb1 h
    refine aw_seq ?_
    refine aw_reg ?_
    refine at_run tt_ok 1 [(4, (.b false))] rfl (by kernel_rfl) ?_
    refine at_end rfl ?_
    refine aw_ret ?_
    obtain rfl := Option.some.inj h
    exact ⟨(.b false), (.b false), _, (res_tmps (by kernel_rfl)), (View.refl _), ⟨_, perm_sel _ [], List.take_sublist 0 _⟩, rfl, rfl⟩
  · have h := ite_f (by rw [hb1]; simp) h
    refine aw_skip ?_
    refine aw_seq ?_
    refine aw_seq ?_
    refine aw_reg ?_
    refine at_run tt_ok 1 [(2, (.ptr [(.slc (p0.flatMap S_Cell.cs) p0.length false)])), (3, (.ptr [(.slc (p1.flatMap S_Cell.cs) p1.length false)])), (5, (.i 0))] rfl (by kernel_rfl) ?_
    refine at_end rfl ?_
    refine aw_block ?_
    refine aw_loop_ind' (X := Int) (fun k' x => k' ≤ K ∧ ref04_SameCells_l0 k' p0 p1 x = some r) (fun x => [(2, (.ptr [(.slc (p0.flatMap S_Cell.cs) p0.length false)])), (3, (.ptr [(.slc (p1.flatMap S_Cell.cs) p1.length false)])), (5, (.i x))]) (fun x => []) (fun x hx => by cases hx.2) ?_ K 0 ⟨Nat.le_refl _, h⟩ (by kernel_rfl) rfl
    clear h
    rintro k4 w0_1 ⟨hlek4, h⟩
    refine aw_seq ?_
    refine aw_seq ?_
    refine aw_reg ?_
    refine at_run tt_ok 5 [(2, (.ptr [(.slc (p0.flatMap S_Cell.cs) p0.length false)])), (3, (.ptr [(.slc (p1.flatMap S_Cell.cs) p1.length false)])), (5, (.i w0_1)), (19, (.b ((decide (w0_1 < (((p0.length : Nat) : Int)))))))] rfl (by kernel_rfl) ?_
    refine at_end rfl ?_
    refine aw_cond ((decide (w0_1 < (((p0.length : Nat) : Int))))) rfl (fun hb5 => ?_) (fun hb5 => ?_)
    · have h := ite_t hb5 h
      refine aw_skip ?_
      refine aw_seq ?_
      refine aw_block ?_
      refine aw_seq ?_
      refine aw_draw mixed (by kernel_rfl) ?_
      refine j_run tt_ok [0, 1, 2, 5, 6, 7] [7, 6, 5, 2, 1, 0] (by kernel_rfl) ?_
      obtain ⟨v6, hv6, h⟩ := bind_some' h
      refine j_light0 3 rfl (by kernel_rfl) rfl (by kernel_rfl) (fun s => (aop_idxN (k := .i64) (g := S_Cell.cs) (l := p0) (fu := false) (j := w0_1) (v := v6) tt_ok S_Cell.len rfl rfl rfl (by kernel_rfl) (by kernel_rfl) hv6)) ?_
      refine j_run tt_ok [4] [4, 3, 7, 6, 5, 2, 1, 0] (by kernel_rfl) ?_
      obtain ⟨v7, hv7, h⟩ := bind_some' h
      refine j_light0 8 rfl (by kernel_rfl) rfl (by kernel_rfl) (fun s => (aop_idxN (k := .i64) (g := S_Cell.cs) (l := p1) (fu := false) (j := w0_1) (v := v7) tt_ok S_Cell.len rfl rfl rfl (by kernel_rfl) (by kernel_rfl) hv7)) ?_
      refine j_run tt_ok [9] [9, 8, 4, 3, 7, 6, 5, 2, 1, 0] (by kernel_rfl) ?_
      refine j_new2 10 11 (ob := (.row 58 5 [(.i 0), (.i 0), (.s (([] : List UInt8))), (.s (([] : List UInt8))), (.lit (.slice none 0 0))] 0)) (ob2 := (.row 58 5 [(.i 0), (.i 0), (.s (([] : List UInt8))), (.s (([] : List UInt8))), (.lit (.slice none 0 0))] 0)) rfl rfl (by kernel_rfl) rfl rfl (by kernel_rfl) (by kernel_rfl) rfl rfl (fun s => (aop_alloc (zs := [(.int .i64 0), (.int .i64 0), (.string ⟨#[]⟩), (.string ⟨#[]⟩), (.slice none 0 0)]) tt_ok rfl rfl rfl)) (fun s => (aop_alloc (zs := [(.int .i64 0), (.int .i64 0), (.string ⟨#[]⟩), (.string ⟨#[]⟩), (.slice none 0 0)]) tt_ok rfl rfl rfl)) (fun l hl => by cases hl) (fun o10 o11 => ?_)
      refine .heavy 12 _ _ rfl (by kernel_rfl) rfl (by kernel_rfl) (aop_storeRef (id := o10) (off := 0) (j := 1) (ds := [(.i v6.fKind), (.i v6.fN), (.s v6.fName), (.s v6.fMark), (.slc (v6.fKids.map AV.i) v6.fKids.length false)]) tt_ok rfl (by kernel_rfl) rfl (by kernel_rfl) rfl) ?_ ?_
      · rintro _ _ ⟨rfl, rfl⟩ l hl
        cases hl
      rintro _ _ ⟨rfl, rfl⟩
      refine .heavy 13 _ _ rfl (by kernel_rfl) rfl (by kernel_rfl) (aop_storeRef (id := o11) (off := 0) (j := 0) (ds := [(.i v7.fKind), (.i v7.fN), (.s v7.fName), (.s v7.fMark), (.slc (v7.fKids.map AV.i) v7.fKids.length false)]) tt_ok rfl (by kernel_rfl) rfl (by kernel_rfl) rfl) ?_ ?_
      · rintro _ _ ⟨rfl, rfl⟩ l hl
        cases hl
      rintro _ _ ⟨rfl, rfl⟩
      refine .done (by kernel_rfl) ?_
      refine aw_seq ?_
      refine aw_normal [(2, (.ptr [(.slc (p0.flatMap S_Cell.cs) p0.length false)])), (3, (.ptr [(.slc (p1.flatMap S_Cell.cs) p1.length false)])), (5, (.i w0_1)), (6, (.ref o10 0)), (7, (.ref o11 0))] (s' := [(o11, .row 58 5 [(.i v7.fKind), (.i v7.fN), (.s v7.fName), (.s v7.fMark), (.slc (v7.fKids.map AV.i) v7.fKids.length false)] 0), (o10, .row 58 5 [(.i v6.fKind), (.i v6.fN), (.s v6.fName), (.s v6.fMark), (.slc (v6.fKids.map AV.i) v6.fKids.length false)] 0)]) (by kernel_rfl) rfl ?_
      refine aw_reg ?_
      refine at_run tt_ok 1 [(2, (.ptr [(.slc (p0.flatMap S_Cell.cs) p0.length false)])), (3, (.ptr [(.slc (p1.flatMap S_Cell.cs) p1.length false)])), (5, (.i w0_1)), (6, (.ref o10 0)), (7, (.ref o11 0)), (32, (.ref o10 0))] rfl (by kernel_rfl) ?_
      refine at_one rfl rfl rfl (aop_loadRef (j := 1) (off := 0) (av := (.i v6.fKind)) tt_ok rfl rfl rfl rfl) ?_
      refine at_run tt_ok 3 [(2, (.ptr [(.slc (p0.flatMap S_Cell.cs) p0.length false)])), (3, (.ptr [(.slc (p1.flatMap S_Cell.cs) p1.length false)])), (5, (.i w0_1)), (6, (.ref o10 0)), (7, (.ref o11 0)), (33, (.i v6.fKind)), (34, (.ref o11 0))] rfl (by kernel_rfl) ?_
      refine at_one rfl rfl rfl (aop_loadRef (j := 0) (off := 0) (av := (.i v7.fKind)) tt_ok rfl rfl rfl rfl) ?_
      refine at_run tt_ok 6 [(2, (.ptr [(.slc (p0.flatMap S_Cell.cs) p0.length false)])), (3, (.ptr [(.slc (p1.flatMap S_Cell.cs) p1.length false)])), (5, (.i w0_1)), (6, (.ref o10 0)), (7, (.ref o11 0)), (37, (.b ((!decide (v6.fKind = v7.fKind)))))] rfl (by kernel_rfl) ?_
      by_cases hb12 : (!decide (v6.fKind = v7.fKind)) = true
      · have h := ite_t hb12 h
        refine at_setb 37 rfl hb12 ?_
        refine at_run tt_ok 34 [(2, (.ptr [(.slc (p0.flatMap S_Cell.cs) p0.length false)])), (3, (.ptr [(.slc (p1.flatMap S_Cell.cs) p1.length false)])), (5, (.i w0_1)), (65, (.b true))] rfl (by kernel_rfl) ?_
        refine at_end rfl ?_
        refine aw_cond true rfl (fun _ => ?_) (fun h => by cases h)
        refine aw_seq ?_
        refine aw_reg ?_
        refine at_run tt_ok 1 [(4, (.b false))] rfl (by kernel_rfl) ?_
        refine at_end rfl ?_
        refine aw_ret ?_
        obtain rfl := Option.some.inj h
        exact ⟨(.b false), (.b false), _, (res_tmps (by kernel_rfl)), (View.refl _), ⟨_, perm_sel _ [], List.take_sublist 0 _⟩, rfl, rfl⟩
      · have h := ite_f hb12 h
        refine at_setb 37 rfl (nott hb12) ?_
        refine at_run tt_ok 7 [(2, (.ptr [(.slc (p0.flatMap S_Cell.cs) p0.length false)])), (3, (.ptr [(.slc (p1.flatMap S_Cell.cs) p1.length false)])), (5, (.i w0_1)), (6, (.ref o10 0)), (7, (.ref o11 0)), (37, (.b false)), (38, (.ref o10 1))] rfl (by kernel_rfl) ?_
        refine at_one rfl rfl rfl (aop_loadRef (j := 1) (off := 1) (av := (.i v6.fN)) tt_ok rfl rfl rfl rfl) ?_
        refine at_run tt_ok 9 [(2, (.ptr [(.slc (p0.flatMap S_Cell.cs) p0.length false)])), (3, (.ptr [(.slc (p1.flatMap S_Cell.cs) p1.length false)])), (5, (.i w0_1)), (6, (.ref o10 0)), (7, (.ref o11 0)), (37, (.b false)), (38, (.ref o10 1)), (39, (.i v6.fN)), (40, (.ref o11 1))] rfl (by kernel_rfl) ?_
        refine at_one rfl rfl rfl (aop_loadRef (j := 0) (off := 1) (av := (.i v7.fN)) tt_ok rfl rfl rfl rfl) ?_
        refine at_run tt_ok 13 [(2, (.ptr [(.slc (p0.flatMap S_Cell.cs) p0.length false)])), (3, (.ptr [(.slc (p1.flatMap S_Cell.cs) p1.length false)])), (5, (.i w0_1)), (6, (.ref o10 0)), (7, (.ref o11 0)), (38, (.ref o10 1)), (39, (.i v6.fN)), (40, (.ref o11 1)), (41, (.i v7.fN)), (42, (.b ((!decide (v6.fN = v7.fN))))), (44, (.b ((!decide (v6.fN = v7.fN)))))] rfl (by kernel_rfl) ?_
        by_cases hb13 : (!decide (v6.fN = v7.fN)) = true
        · have h := ite_t hb13 h
          refine at_setb 42 rfl hb13 ?_
          refine at_setb 44 rfl hb13 ?_
          refine at_run tt_ok 34 [(2, (.ptr [(.slc (p0.flatMap S_Cell.cs) p0.length false)])), (3, (.ptr [(.slc (p1.flatMap S_Cell.cs) p1.length false)])), (5, (.i w0_1)), (38, (.ref o10 1)), (39, (.i v6.fN)), (40, (.ref o11 1)), (41, (.i v7.fN)), (42, (.b true)), (65, (.b true))] rfl (by kernel_rfl) ?_
          refine at_end rfl ?_
          refine aw_cond true rfl (fun _ => ?_) (fun h => by cases h)
          refine aw_seq ?_
          refine aw_reg ?_
          refine at_run tt_ok 1 [(4, (.b false))] rfl (by kernel_rfl) ?_
          refine at_end rfl ?_
          refine aw_ret ?_
          obtain rfl := Option.some.inj h
          exact ⟨(.b false), (.b false), _, (res_tmps (by kernel_rfl)), (View.refl _), ⟨_, perm_sel _ [], List.take_sublist 0 _⟩, rfl, rfl⟩
        · have h := ite_f hb13 h
          refine at_setb 42 rfl (nott hb13) ?_
          refine at_setb 44 rfl (nott hb13) ?_
          refine at_run tt_ok 14 [(2, (.ptr [(.slc (p0.flatMap S_Cell.cs) p0.length false)])), (3, (.ptr [(.slc (p1.flatMap S_Cell.cs) p1.length false)])), (5, (.i w0_1)), (6, (.ref o10 0)), (7, (.ref o11 0)), (38, (.ref o10 1)), (39, (.i v6.fN)), (40, (.ref o11 1)), (41, (.i v7.fN)), (42, (.b false)), (44, (.b false)), (45, (.ref o10 2))] rfl (by kernel_rfl) ?_
          refine at_one rfl rfl rfl (aop_loadRef (j := 1) (off := 2) (av := (.s v6.fName)) tt_ok rfl rfl rfl rfl) ?_
          refine at_run tt_ok 16 [(2, (.ptr [(.slc (p0.flatMap S_Cell.cs) p0.length false)])), (3, (.ptr [(.slc (p1.flatMap S_Cell.cs) p1.length false)])), (5, (.i w0_1)), (6, (.ref o10 0)), (7, (.ref o11 0)), (38, (.ref o10 1)), (39, (.i v6.fN)), (40, (.ref o11 1)), (41, (.i v7.fN)), (42, (.b false)), (44, (.b false)), (45, (.ref o10 2)), (46, (.s v6.fName)), (47, (.ref o11 2))] rfl (by kernel_rfl) ?_
          refine at_one rfl rfl rfl (aop_loadRef (j := 0) (off := 2) (av := (.s v7.fName)) tt_ok rfl rfl rfl rfl) ?_
          refine at_run tt_ok 20 [(2, (.ptr [(.slc (p0.flatMap S_Cell.cs) p0.length false)])), (3, (.ptr [(.slc (p1.flatMap S_Cell.cs) p1.length false)])), (5, (.i w0_1)), (6, (.ref o10 0)), (7, (.ref o11 0)), (38, (.ref o10 1)), (39, (.i v6.fN)), (40, (.ref o11 1)), (41, (.i v7.fN)), (42, (.b false)), (45, (.ref o10 2)), (46, (.s v6.fName)), (47, (.ref o11 2)), (48, (.s v7.fName)), (49, (.b ((!decide (v6.fName = v7.fName))))), (51, (.b ((!decide (v6.fName = v7.fName)))))] rfl (by kernel_rfl) ?_
          by_cases hb14 : (!decide (v6.fName = v7.fName)) = true
          · have h := ite_t hb14 h
            refine at_setb 49 rfl hb14 ?_
            refine at_setb 51 rfl hb14 ?_
            refine at_run tt_ok 34 [(2, (.ptr [(.slc (p0.flatMap S_Cell.cs) p0.length false)])), (3, (.ptr [(.slc (p1.flatMap S_Cell.cs) p1.length false)])), (5, (.i w0_1)), (38, (.ref o10 1)), (39, (.i v6.fN)), (40, (.ref o11 1)), (41, (.i v7.fN)), (42, (.b false)), (45, (.ref o10 2)), (46, (.s v6.fName)), (47, (.ref o11 2)), (48, (.s v7.fName)), (49, (.b true)), (65, (.b true))] rfl (by kernel_rfl) ?_
            refine at_end rfl ?_
            refine aw_cond true rfl (fun _ => ?_) (fun h => by cases h)
            refine aw_seq ?_
            refine aw_reg ?_
            refine at_run tt_ok 1 [(4, (.b false))] rfl (by kernel_rfl) ?_
            refine at_end rfl ?_
            refine aw_ret ?_
            obtain rfl := Option.some.inj h
            exact ⟨(.b false), (.b false), _, (res_tmps (by kernel_rfl)), (View.refl _), ⟨_, perm_sel _ [], List.take_sublist 0 _⟩, rfl, rfl⟩
          · have h := ite_f hb14 h
            refine at_setb 49 rfl (nott hb14) ?_
            refine at_setb 51 rfl (nott hb14) ?_
            refine at_run tt_ok 21 [(2, (.ptr [(.slc (p0.flatMap S_Cell.cs) p0.length false)])), (3, (.ptr [(.slc (p1.flatMap S_Cell.cs) p1.length false)])), (5, (.i w0_1)), (6, (.ref o10 0)), (7, (.ref o11 0)), (38, (.ref o10 1)), (39, (.i v6.fN)), (40, (.ref o11 1)), (41, (.i v7.fN)), (42, (.b false)), (45, (.ref o10 2)), (46, (.s v6.fName)), (47, (.ref o11 2)), (48, (.s v7.fName)), (49, (.b false)), (51, (.b false)), (52, (.ref o10 3))] rfl (by kernel_rfl) ?_
            refine at_one rfl rfl rfl (aop_loadRef (j := 1) (off := 3) (av := (.s v6.fMark)) tt_ok rfl rfl rfl rfl) ?_
            refine at_run tt_ok 23 [(2, (.ptr [(.slc (p0.flatMap S_Cell.cs) p0.length false)])), (3, (.ptr [(.slc (p1.flatMap S_Cell.cs) p1.length false)])), (5, (.i w0_1)), (6, (.ref o10 0)), (7, (.ref o11 0)), (38, (.ref o10 1)), (39, (.i v6.fN)), (40, (.ref o11 1)), (41, (.i v7.fN)), (42, (.b false)), (45, (.ref o10 2)), (46, (.s v6.fName)), (47, (.ref o11 2)), (48, (.s v7.fName)), (49, (.b false)), (51, (.b false)), (52, (.ref o10 3)), (53, (.s v6.fMark)), (54, (.ref o11 3))] rfl (by kernel_rfl) ?_
            refine at_one rfl rfl rfl (aop_loadRef (j := 0) (off := 3) (av := (.s v7.fMark)) tt_ok rfl rfl rfl rfl) ?_
            refine at_run tt_ok 27 [(2, (.ptr [(.slc (p0.flatMap S_Cell.cs) p0.length false)])), (3, (.ptr [(.slc (p1.flatMap S_Cell.cs) p1.length false)])), (5, (.i w0_1)), (6, (.ref o10 0)), (7, (.ref o11 0)), (38, (.ref o10 1)), (39, (.i v6.fN)), (40, (.ref o11 1)), (41, (.i v7.fN)), (42, (.b false)), (45, (.ref o10 2)), (46, (.s v6.fName)), (47, (.ref o11 2)), (48, (.s v7.fName)), (49, (.b false)), (52, (.ref o10 3)), (53, (.s v6.fMark)), (54, (.ref o11 3)), (55, (.s v7.fMark)), (56, (.b ((!decide (v6.fMark = v7.fMark))))), (58, (.b ((!decide (v6.fMark = v7.fMark)))))] rfl (by kernel_rfl) ?_
            by_cases hb15 : (!decide (v6.fMark = v7.fMark)) = true
            · have h := ite_t hb15 h
              refine at_setb 56 rfl hb15 ?_
              refine at_setb 58 rfl hb15 ?_
              refine at_run tt_ok 34 [(2, (.ptr [(.slc (p0.flatMap S_Cell.cs) p0.length false)])), (3, (.ptr [(.slc (p1.flatMap S_Cell.cs) p1.length false)])), (5, (.i w0_1)), (38, (.ref o10 1)), (39, (.i v6.fN)), (40, (.ref o11 1)), (41, (.i v7.fN)), (42, (.b false)), (45, (.ref o10 2)), (46, (.s v6.fName)), (47, (.ref o11 2)), (48, (.s v7.fName)), (49, (.b false)), (52, (.ref o10 3)), (53, (.s v6.fMark)), (54, (.ref o11 3)), (55, (.s v7.fMark)), (56, (.b true)), (65, (.b true))] rfl (by kernel_rfl) ?_
              refine at_end rfl ?_
              refine aw_cond true rfl (fun _ => ?_) (fun h => by cases h)
              refine aw_seq ?_
              refine aw_reg ?_
              refine at_run tt_ok 1 [(4, (.b false))] rfl (by kernel_rfl) ?_
              refine at_end rfl ?_
              refine aw_ret ?_
              obtain rfl := Option.some.inj h
              exact ⟨(.b false), (.b false), _, (res_tmps (by kernel_rfl)), (View.refl _), ⟨_, perm_sel _ [], List.take_sublist 0 _⟩, rfl, rfl⟩
            · have h := ite_f hb15 h
              refine at_setb 56 rfl (nott hb15) ?_
              refine at_setb 58 rfl (nott hb15) ?_
              refine at_run tt_ok 28 [(2, (.ptr [(.slc (p0.flatMap S_Cell.cs) p0.length false)])), (3, (.ptr [(.slc (p1.flatMap S_Cell.cs) p1.length false)])), (5, (.i w0_1)), (7, (.ref o11 0)), (38, (.ref o10 1)), (39, (.i v6.fN)), (40, (.ref o11 1)), (41, (.i v7.fN)), (42, (.b false)), (45, (.ref o10 2)), (46, (.s v6.fName)), (47, (.ref o11 2)), (48, (.s v7.fName)), (49, (.b false)), (52, (.ref o10 3)), (53, (.s v6.fMark)), (54, (.ref o11 3)), (55, (.s v7.fMark)), (56, (.b false)), (58, (.b false)), (59, (.ref o10 4))] rfl (by kernel_rfl) ?_
              refine at_one rfl rfl rfl (aop_loadRef (j := 1) (off := 4) (av := (.slc (v6.fKids.map AV.i) v6.fKids.length false)) tt_ok rfl rfl rfl rfl) ?_
              refine at_run tt_ok 30 [(2, (.ptr [(.slc (p0.flatMap S_Cell.cs) p0.length false)])), (3, (.ptr [(.slc (p1.flatMap S_Cell.cs) p1.length false)])), (5, (.i w0_1)), (38, (.ref o10 1)), (39, (.i v6.fN)), (40, (.ref o11 1)), (41, (.i v7.fN)), (42, (.b false)), (45, (.ref o10 2)), (46, (.s v6.fName)), (47, (.ref o11 2)), (48, (.s v7.fName)), (49, (.b false)), (52, (.ref o10 3)), (53, (.s v6.fMark)), (54, (.ref o11 3)), (55, (.s v7.fMark)), (56, (.b false)), (58, (.b false)), (59, (.ref o10 4)), (60, (.slc (v6.fKids.map AV.i) v6.fKids.length false)), (61, (.ref o11 4))] rfl (by kernel_rfl) ?_
              refine at_one rfl rfl rfl (aop_loadRef (j := 0) (off := 4) (av := (.slc (v7.fKids.map AV.i) v7.fKids.length false)) tt_ok rfl rfl rfl rfl) ?_
              obtain ⟨v16, hc17, h⟩ := bind_some' h
              refine at_op rfl rfl rfl (aop_call (first := []) (caps := []) (xs := [(.slc (v6.fKids.map AV.i) v6.fKids.length false), (.slc (v7.fKids.map AV.i) v7.fKids.length false)]) (args' := [(.slc (v6.fKids.map AV.i) v6.fKids.length false), (.slc (v7.fKids.map AV.i) v7.fKids.length false)]) (sm := []) (r := [(o11, .row 58 5 [(.i v7.fKind), (.i v7.fN), (.s v7.fName), (.s v7.fMark), (.slc (v7.fKids.map AV.i) v7.fKids.length false)] 0), (o10, .row 58 5 [(.i v6.fKind), (.i v6.fN), (.s v6.fName), (.s v6.fMark), (.slc (v6.fKids.map AV.i) v6.fKids.length false)] 0)]) rfl (by kernel_rfl) Try.func30 rfl rfl (ref04_SamePath_ok k4 v6.fKids v7.fKids _ hc17) (by kernel_rfl) (VW.refl _) (permTo [] (by kernel_rfl))) ?_
              rintro _ _ ⟨_, ⟨rfl, rfl⟩, rfl⟩
              refine at_run tt_ok 34 [(2, (.ptr [(.slc (p0.flatMap S_Cell.cs) p0.length false)])), (3, (.ptr [(.slc (p1.flatMap S_Cell.cs) p1.length false)])), (5, (.i w0_1)), (38, (.ref o10 1)), (39, (.i v6.fN)), (40, (.ref o11 1)), (41, (.i v7.fN)), (42, (.b false)), (45, (.ref o10 2)), (46, (.s v6.fName)), (47, (.ref o11 2)), (48, (.s v7.fName)), (49, (.b false)), (52, (.ref o10 3)), (53, (.s v6.fMark)), (54, (.ref o11 3)), (55, (.s v7.fMark)), (56, (.b false)), (59, (.ref o10 4)), (60, (.slc (v6.fKids.map AV.i) v6.fKids.length false)), (61, (.ref o11 4)), (62, (.slc (v7.fKids.map AV.i) v7.fKids.length false)), (63, (.b v16)), (64, (.b ((!v16)))), (65, (.b ((!v16))))] rfl (by kernel_rfl) ?_
              refine at_end rfl ?_
              refine aw_cond ((!v16)) rfl (fun hb18 => ?_) (fun hb18 => ?_)
              · have h := ite_t hb18 h
                refine aw_seq ?_
                refine aw_reg ?_
                refine at_run tt_ok 1 [(4, (.b false))] rfl (by kernel_rfl) ?_
                refine at_end rfl ?_
                refine aw_ret ?_
                obtain rfl := Option.some.inj h
                exact ⟨(.b false), (.b false), _, (res_tmps (by kernel_rfl)), (View.refl _), ⟨_, perm_sel _ [], List.take_sublist 0 _⟩, rfl, rfl⟩
              · have h := ite_f (by rw [hb18]; simp) h
                refine aw_skip ?_
                refine aw_reg ?_
                refine at_run tt_ok 3 [(2, (.ptr [(.slc (p0.flatMap S_Cell.cs) p0.length false)])), (3, (.ptr [(.slc (p1.flatMap S_Cell.cs) p1.length false)])), (5, (.i ((IntKind.i64.wrap (w0_1 + 1))))), (38, (.ref o10 1)), (39, (.i v6.fN)), (40, (.ref o11 1)), (41, (.i v7.fN)), (42, (.b false)), (45, (.ref o10 2)), (46, (.s v6.fName)), (47, (.ref o11 2)), (48, (.s v7.fName)), (49, (.b false)), (52, (.ref o10 3)), (53, (.s v6.fMark)), (54, (.ref o11 3)), (55, (.s v7.fMark)), (56, (.b false)), (59, (.ref o10 4)), (60, (.slc (v6.fKids.map AV.i) v6.fKids.length false)), (61, (.ref o11 4)), (62, (.slc (v7.fKids.map AV.i) v7.fKids.length false)), (63, (.b v16)), (64, (.b ((!v16))))] rfl (by kernel_rfl) ?_
                refine at_end rfl ?_
                exact ⟨k4, (IntKind.i64.wrap (w0_1 + 1)), [], [(o11, .row 58 5 [(.i v7.fKind), (.i v7.fN), (.s v7.fName), (.s v7.fMark), (.slc (v7.fKids.map AV.i) v7.fKids.length false)] 0), (o10, .row 58 5 [(.i v6.fKind), (.i v6.fN), (.s v6.fName), (.s v6.fMark), (.slc (v6.fKids.map AV.i) v6.fKids.length false)] 0)], by omega, ⟨by omega, h⟩, by kernel_rfl, rfl⟩
    · have h := ite_f (by rw [hb5]; simp) h
      refine aw_exit ?_
      refine aw_seq ?_
      refine aw_reg ?_
      refine at_run tt_ok 1 [(4, (.b true))] rfl (by kernel_rfl) ?_
      refine at_end rfl ?_
      refine aw_ret ?_
      obtain rfl := Option.some.inj h
      exact ⟨(.b true), (.b true), _, (res_tmps (by kernel_rfl)), (View.refl _), ⟨_, perm_sel _ [], List.take_sublist 0 _⟩, rfl, rfl⟩
theorem law04_ArenaOpens_ok (K : Nat) : ∀ (p0 : List S_Cell) (r : Bool), law04_ArenaOpens K p0 = some r → ACalls Try.prog 4 [(.agg [(.slc (p0.flatMap S_Cell.cs) p0.length false)])] [] (fun av s => av = (.b r) ∧ s = []) := by
  intro p0 r h
  refine acalls_enter Try.func4 rfl rfl ?_
  refine aw_seq ?_
  refine aw_normal [(0, (.agg [(.slc (p0.flatMap S_Cell.cs) p0.length false)]))] (s' := []) (by kernel_rfl) rfl ?_
  refine aw_reg ?_
  refine at_op rfl rfl rfl (aop_box (cs := [(.slc (p0.flatMap S_Cell.cs) p0.length false)]) rfl rfl) ?_
  rintro _ _ ⟨o1, rfl, rfl⟩
  refine at_run tt_ok 2 [(1, (.ref o1 0))] rfl (by kernel_rfl) ?_
  refine at_end rfl ?_
  refine aw_seq ?_
  refine aw_reg ?_
  refine at_one rfl rfl rfl (aop_loadRef (j := 0) (off := 0) (av := (.agg [(.slc (p0.flatMap S_Cell.cs) p0.length false)])) tt_ok rfl rfl rfl rfl) ?_
  obtain ⟨v2, hc3, h⟩ := bind_some' h
  refine at_op rfl rfl rfl (aop_call (first := []) (caps := []) (xs := [(.agg [(.slc (p0.flatMap S_Cell.cs) p0.length false)])]) (args' := [(.agg [(.slc (p0.flatMap S_Cell.cs) p0.length false)])]) (sm := []) (r := [(o1, .row 24 1 [(.slc (p0.flatMap S_Cell.cs) p0.length false)] 0)]) rfl (by kernel_rfl) Try.func10 rfl rfl (law04_few_ok K p0 _ hc3) (by kernel_rfl) (VW.refl _) (permTo [] (by kernel_rfl))) ?_
  rintro _ _ ⟨_, ⟨rfl, rfl⟩, rfl⟩
  refine at_one rfl rfl rfl (aop_storeRef (id := o1) (off := 0) (j := 0) (ds := [(.slc (v2.flatMap S_Cell.cs) v2.length false)]) tt_ok rfl rfl rfl rfl rfl) ?_
  refine at_end rfl ?_
  refine aw_seq ?_
  refine aw_normal [(1, (.ref o1 0))] (s' := [(o1, .row 24 1 [(.slc (v2.flatMap S_Cell.cs) v2.length false)] 0)]) (by kernel_rfl) rfl ?_
  refine aw_reg ?_
  refine at_one rfl rfl rfl (aop_loadRef (j := 0) (off := 0) (av := (.agg [(.slc (v2.flatMap S_Cell.cs) v2.length false)])) tt_ok rfl rfl rfl rfl) ?_
  obtain ⟨⟨v4, v5⟩, hc6, h⟩ := bind_some' h
  refine at_op rfl rfl rfl (aop_call (first := []) (caps := []) (xs := [(.agg [(.slc (v2.flatMap S_Cell.cs) v2.length false)])]) (args' := [(.agg [(.slc (v2.flatMap S_Cell.cs) v2.length false)])]) (sm := []) (r := [(o1, .row 24 1 [(.slc (v2.flatMap S_Cell.cs) v2.length false)] 0)]) rfl (by kernel_rfl) Try.func19 rfl rfl (arena_Open_ok K v2 _ hc6) (by kernel_rfl) (VW.refl _) (permTo [] (by kernel_rfl))) ?_
  rintro _ _ ⟨_, ⟨rfl, rfl⟩, rfl⟩
  refine at_run tt_ok 7 [(1, (.ref o1 0)), (3, (.tree v4)), (4, (.i v5))] rfl (by kernel_rfl) ?_
  refine at_end rfl ?_
  refine aw_seq ?_
  refine aw_reg ?_
  refine at_one rfl rfl rfl (aop_loadRef (j := 0) (off := 0) (av := (.agg [(.slc (v2.flatMap S_Cell.cs) v2.length false)])) tt_ok rfl rfl rfl rfl) ?_
  obtain ⟨⟨v7, v8⟩, hc9, h⟩ := bind_some' h
  refine at_op rfl rfl rfl (aop_call (first := []) (caps := []) (xs := [(.agg [(.slc (v2.flatMap S_Cell.cs) v2.length false)])]) (args' := [(.agg [(.slc (v2.flatMap S_Cell.cs) v2.length false)])]) (sm := []) (r := [(o1, .row 24 1 [(.slc (v2.flatMap S_Cell.cs) v2.length false)] 0)]) rfl (by kernel_rfl) Try.func9 rfl rfl (ref04_Open_ok K v2 _ hc9) (by kernel_rfl) (VW.refl _) (permTo [] (by kernel_rfl))) ?_
  rintro _ _ ⟨_, ⟨rfl, rfl⟩, rfl⟩
  refine at_run tt_ok 7 [(3, (.tree v4)), (4, (.i v5)), (5, (.tree v7)), (6, (.i v8))] rfl (by kernel_rfl) ?_
  refine at_end rfl ?_
  refine aw_seq ?_
  refine aw_seq ?_
  refine aw_reg ?_
  refine at_run tt_ok 2 [(3, (.tree v4)), (4, (.i v5)), (5, (.tree v7)), (6, (.i v8)), (23, (.tree v4)), (24, (.tree v7))] rfl (by kernel_rfl) ?_
  obtain ⟨v10, hc11, h⟩ := bind_some' h
  refine at_op rfl rfl rfl (aop_call (first := []) (caps := []) (xs := [(.tree v4), (.tree v7)]) (args' := [(.tree v4), (.tree v7)]) (sm := []) (r := [(o1, .row 24 1 [(.slc (v2.flatMap S_Cell.cs) v2.length false)] 0)]) rfl (by kernel_rfl) Try.func12 rfl rfl (ref04_Same_ok K v4 v7 _ hc11) (by kernel_rfl) (VW.refl _) (permTo [] (by kernel_rfl))) ?_
  rintro _ _ ⟨_, ⟨rfl, rfl⟩, rfl⟩
  refine at_run tt_ok 5 [(3, (.tree v4)), (4, (.i v5)), (5, (.tree v7)), (6, (.i v8)), (27, (.b ((!v10))))] rfl (by kernel_rfl) ?_
  by_cases hb12 : (!v10) = true
  · have h := ite_t hb12 h
    refine at_setb 27 rfl hb12 ?_
    refine at_run tt_ok 9 [(3, (.tree v4)), (5, (.tree v7)), (6, (.i v8)), (31, (.b true))] rfl (by kernel_rfl) ?_
    refine at_end rfl ?_
    refine aw_cond true rfl (fun _ => ?_) (fun h => by cases h)
    refine aw_seq ?_
    refine aw_reg ?_
    refine at_run tt_ok 1 [(2, (.b false))] rfl (by kernel_rfl) ?_
    refine at_end rfl ?_
    refine aw_ret ?_
    obtain rfl := Option.some.inj h
    exact ⟨(.b false), (.b false), _, (res_tmps (by kernel_rfl)), (View.refl _), ⟨_, perm_sel _ [], List.take_sublist 0 _⟩, rfl, rfl⟩
  · have h := ite_f hb12 h
    refine at_setb 27 rfl (nott hb12) ?_
    refine at_run tt_ok 9 [(3, (.tree v4)), (5, (.tree v7)), (6, (.i v8)), (31, (.b ((!decide (v5 = v8)))))] rfl (by kernel_rfl) ?_
    refine at_end rfl ?_
    refine aw_cond ((!decide (v5 = v8))) rfl (fun hb13 => ?_) (fun hb13 => ?_)
    · have h := ite_t hb13 h
      refine aw_seq ?_
      refine aw_reg ?_
      refine at_run tt_ok 1 [(2, (.b false))] rfl (by kernel_rfl) ?_
      refine at_end rfl ?_
      refine aw_ret ?_
      obtain rfl := Option.some.inj h
      exact ⟨(.b false), (.b false), _, (res_tmps (by kernel_rfl)), (View.refl _), ⟨_, perm_sel _ [], List.take_sublist 0 _⟩, rfl, rfl⟩
    · have h := ite_f (by rw [hb13]; simp) h
      refine aw_skip ?_
      refine aw_seq ?_
      refine aw_seq ?_
      refine aw_reg ?_
      refine at_run tt_ok 2 [(3, (.tree v4)), (5, (.tree v7)), (33, (.b ((!decide (v8 = 0)))))] rfl (by kernel_rfl) ?_
      refine at_end rfl ?_
      refine aw_cond ((!decide (v8 = 0))) rfl (fun hb14 => ?_) (fun hb14 => ?_)
      · have h := ite_t hb14 h
        refine aw_seq ?_
        refine aw_reg ?_
        obtain ⟨v15, hc16, h⟩ := bind_some' h
        refine at_op rfl rfl rfl (aop_call (first := []) (caps := []) (xs := []) (args' := []) (sm := []) (r := [(o1, .row 24 1 [(.slc (v2.flatMap S_Cell.cs) v2.length false)] 0)]) rfl (by kernel_rfl) Try.func18 rfl rfl (law04_works_ok K _ hc16) (by kernel_rfl) (VW.refl _) (permTo [] (by kernel_rfl))) ?_
        rintro _ _ ⟨_, ⟨rfl, rfl⟩, rfl⟩
        refine at_run tt_ok 2 [(2, (.b v15))] rfl (by kernel_rfl) ?_
        refine at_end rfl ?_
        refine aw_ret ?_
        obtain rfl := Option.some.inj h
        exact ⟨(.b v15), (.b v15), _, (res_tmps (by kernel_rfl)), (View.refl _), ⟨_, perm_sel _ [], List.take_sublist 0 _⟩, rfl, rfl⟩
      · have h := ite_f (by rw [hb14]; simp) h
        refine aw_skip ?_
        refine aw_seq ?_
        refine aw_reg ?_
        refine at_run tt_ok 1 [(5, (.tree v7)), (36, (.tree v4))] rfl (by kernel_rfl) ?_
        obtain ⟨⟨v17, v18⟩, hc19, h⟩ := bind_some' h
        refine at_op rfl rfl rfl (aop_call (first := []) (caps := []) (xs := [(.tree v4)]) (args' := [(.tree v4)]) (sm := []) (r := [(o1, .row 24 1 [(.slc (v2.flatMap S_Cell.cs) v2.length false)] 0)]) rfl (by kernel_rfl) Try.func20 rfl rfl (arena_Pack_ok K v4 _ hc19) (by kernel_rfl) (VW.refl _) (permTo [] (by kernel_rfl))) ?_
        rintro _ _ ⟨_, ⟨rfl, rfl⟩, rfl⟩
        refine at_run tt_ok 5 [(5, (.tree v7)), (38, (.agg [(.slc (v17.flatMap S_Cell.cs) v17.length false)])), (39, (.i v18))] rfl (by kernel_rfl) ?_
        refine at_op rfl rfl rfl (aop_alloc (zs := [(.slice none 0 0)]) tt_ok rfl rfl rfl) ?_
        rintro _ _ ⟨o20, rfl, rfl⟩
        refine at_one rfl rfl rfl (aop_storeRef (id := o20) (off := 0) (j := 0) (ds := [(.slc (v17.flatMap S_Cell.cs) v17.length false)]) tt_ok rfl rfl rfl rfl rfl) ?_
        refine at_run tt_ok 8 [(5, (.tree v7)), (7, (.ref o20 0)), (8, (.i v18))] rfl (by kernel_rfl) ?_
        refine at_end rfl ?_
        refine aw_seq ?_
        refine aw_reg ?_
        refine at_run tt_ok 1 [(7, (.ref o20 0)), (8, (.i v18)), (41, (.tree v7))] rfl (by kernel_rfl) ?_
        obtain ⟨⟨v21, v22⟩, hc23, h⟩ := bind_some' h
        refine at_op rfl rfl rfl (aop_call (first := []) (caps := []) (xs := [(.tree v7)]) (args' := [(.tree v7)]) (sm := []) (r := [(o20, .row 24 1 [(.slc (v17.flatMap S_Cell.cs) v17.length false)] 0), (o1, .row 24 1 [(.slc (v2.flatMap S_Cell.cs) v2.length false)] 0)]) rfl (by kernel_rfl) Try.func21 rfl rfl (ref04_Pack_ok K v7 _ hc23) (by kernel_rfl) (VW.refl _) (permTo [] (by kernel_rfl))) ?_
        rintro _ _ ⟨_, ⟨rfl, rfl⟩, rfl⟩
        refine at_run tt_ok 5 [(7, (.ref o20 0)), (8, (.i v18)), (43, (.agg [(.slc (v21.flatMap S_Cell.cs) v21.length false)])), (44, (.i v22))] rfl (by kernel_rfl) ?_
        refine at_op rfl rfl rfl (aop_alloc (zs := [(.slice none 0 0)]) tt_ok rfl rfl rfl) ?_
        rintro _ _ ⟨o24, rfl, rfl⟩
        refine at_one rfl rfl rfl (aop_storeRef (id := o24) (off := 0) (j := 0) (ds := [(.slc (v21.flatMap S_Cell.cs) v21.length false)]) tt_ok rfl rfl rfl rfl rfl) ?_
        refine at_run tt_ok 8 [(7, (.ref o20 0)), (8, (.i v18)), (9, (.ref o24 0)), (10, (.i v22))] rfl (by kernel_rfl) ?_
        refine at_end rfl ?_
        refine aw_seq ?_
        refine aw_reg ?_
        refine at_one rfl rfl rfl (aop_loadRef (j := 1) (off := 0) (av := (.agg [(.slc (v17.flatMap S_Cell.cs) v17.length false)])) tt_ok rfl rfl rfl rfl) ?_
        refine at_one rfl rfl rfl (aop_loadRef (j := 0) (off := 0) (av := (.agg [(.slc (v21.flatMap S_Cell.cs) v21.length false)])) tt_ok rfl rfl rfl rfl) ?_
        obtain ⟨v25, hc26, h⟩ := bind_some' h
        refine at_op rfl rfl rfl (aop_call (first := []) (caps := []) (xs := [(.agg [(.slc (v17.flatMap S_Cell.cs) v17.length false)]), (.agg [(.slc (v21.flatMap S_Cell.cs) v21.length false)])]) (args' := [(.agg [(.slc (v17.flatMap S_Cell.cs) v17.length false)]), (.agg [(.slc (v21.flatMap S_Cell.cs) v21.length false)])]) (sm := []) (r := [(o24, .row 24 1 [(.slc (v21.flatMap S_Cell.cs) v21.length false)] 0), (o20, .row 24 1 [(.slc (v17.flatMap S_Cell.cs) v17.length false)] 0), (o1, .row 24 1 [(.slc (v2.flatMap S_Cell.cs) v2.length false)] 0)]) rfl (by kernel_rfl) Try.func22 rfl rfl (ref04_SameCells_ok K v17 v21 _ hc26) (by kernel_rfl) (VW.refl _) (permTo [] (by kernel_rfl))) ?_
        rintro _ _ ⟨_, ⟨rfl, rfl⟩, rfl⟩
        refine at_run tt_ok 4 [(8, (.i v18)), (10, (.i v22)), (48, (.b v25))] rfl (by kernel_rfl) ?_
        by_cases hb27 : v25 = true
        · have h := ite_t hb27 h
          refine at_setb 48 rfl hb27 ?_
          refine at_run tt_ok 9 [(53, (.b ((decide (v18 = v22)))))] rfl (by kernel_rfl) ?_
          by_cases hb28 : (decide (v18 = v22)) = true
          · have h := ite_t hb28 h
            refine at_setb 53 rfl hb28 ?_
            obtain ⟨v29, hc30, h⟩ := bind_some' h
            refine at_op rfl rfl rfl (aop_call (first := []) (caps := []) (xs := []) (args' := []) (sm := []) (r := [(o24, .row 24 1 [(.slc (v21.flatMap S_Cell.cs) v21.length false)] 0), (o20, .row 24 1 [(.slc (v17.flatMap S_Cell.cs) v17.length false)] 0), (o1, .row 24 1 [(.slc (v2.flatMap S_Cell.cs) v2.length false)] 0)]) rfl (by kernel_rfl) Try.func18 rfl rfl (law04_works_ok K _ hc30) (by kernel_rfl) (VW.refl _) (permTo [] (by kernel_rfl))) ?_
            rintro _ _ ⟨_, ⟨rfl, rfl⟩, rfl⟩
            refine at_run tt_ok 12 [(2, (.b v29))] rfl (by kernel_rfl) ?_
            refine at_end rfl ?_
            refine aw_ret ?_
            obtain rfl := Option.some.inj h
            exact ⟨(.b v29), (.b v29), _, (res_tmps (by kernel_rfl)), (View.refl _), ⟨_, perm_sel _ [], List.take_sublist 0 _⟩, rfl, rfl⟩
          · have h := ite_f hb28 h
            refine at_setb 53 rfl (nott hb28) ?_
            refine at_run tt_ok 12 [(2, (.b false))] rfl (by kernel_rfl) ?_
            refine at_end rfl ?_
            refine aw_ret ?_
            obtain rfl := Option.some.inj h
            exact ⟨(.b false), (.b false), _, (res_tmps (by kernel_rfl)), (View.refl _), ⟨_, perm_sel _ [], List.take_sublist 0 _⟩, rfl, rfl⟩
        · have h := ite_f hb27 h
          refine at_setb 48 rfl (nott hb27) ?_
          refine at_run tt_ok 12 [(2, (.b false))] rfl (by kernel_rfl) ?_
          refine at_end rfl ?_
          refine aw_ret ?_
          obtain rfl := Option.some.inj h
          exact ⟨(.b false), (.b false), _, (res_tmps (by kernel_rfl)), (View.refl _), ⟨_, perm_sel _ [], List.take_sublist 0 _⟩, rfl, rfl⟩
theorem law04_ArenaBack_ok (K : Nat) : ∀ (p0 : List S_Cell) (r : Bool), law04_ArenaBack K p0 = some r → ACalls Try.prog 5 [(.agg [(.slc (p0.flatMap S_Cell.cs) p0.length false)])] [] (fun av s => av = (.b r) ∧ s = []) := by
  intro p0 r h
  refine acalls_enter Try.func5 rfl rfl ?_
  refine aw_seq ?_
  refine aw_normal [(0, (.agg [(.slc (p0.flatMap S_Cell.cs) p0.length false)]))] (s' := []) (by kernel_rfl) rfl ?_
  refine aw_reg ?_
  refine at_op rfl rfl rfl (aop_box (cs := [(.slc (p0.flatMap S_Cell.cs) p0.length false)]) rfl rfl) ?_
  rintro _ _ ⟨o1, rfl, rfl⟩
  refine at_run tt_ok 2 [(1, (.ref o1 0))] rfl (by kernel_rfl) ?_
  refine at_end rfl ?_
  refine aw_seq ?_
  refine aw_reg ?_
  refine at_one rfl rfl rfl (aop_loadRef (j := 0) (off := 0) (av := (.agg [(.slc (p0.flatMap S_Cell.cs) p0.length false)])) tt_ok rfl rfl rfl rfl) ?_
  obtain ⟨v2, hc3, h⟩ := bind_some' h
  refine at_op rfl rfl rfl (aop_call (first := []) (caps := []) (xs := [(.agg [(.slc (p0.flatMap S_Cell.cs) p0.length false)])]) (args' := [(.agg [(.slc (p0.flatMap S_Cell.cs) p0.length false)])]) (sm := []) (r := [(o1, .row 24 1 [(.slc (p0.flatMap S_Cell.cs) p0.length false)] 0)]) rfl (by kernel_rfl) Try.func10 rfl rfl (law04_few_ok K p0 _ hc3) (by kernel_rfl) (VW.refl _) (permTo [] (by kernel_rfl))) ?_
  rintro _ _ ⟨_, ⟨rfl, rfl⟩, rfl⟩
  refine at_one rfl rfl rfl (aop_storeRef (id := o1) (off := 0) (j := 0) (ds := [(.slc (v2.flatMap S_Cell.cs) v2.length false)]) tt_ok rfl rfl rfl rfl rfl) ?_
  refine at_end rfl ?_
  refine aw_seq ?_
  refine aw_normal [(1, (.ref o1 0))] (s' := [(o1, .row 24 1 [(.slc (v2.flatMap S_Cell.cs) v2.length false)] 0)]) (by kernel_rfl) rfl ?_
  refine aw_reg ?_
  refine at_one rfl rfl rfl (aop_loadRef (j := 0) (off := 0) (av := (.agg [(.slc (v2.flatMap S_Cell.cs) v2.length false)])) tt_ok rfl rfl rfl rfl) ?_
  obtain ⟨⟨v4, v5⟩, hc6, h⟩ := bind_some' h
  refine at_op rfl rfl rfl (aop_call (first := []) (caps := []) (xs := [(.agg [(.slc (v2.flatMap S_Cell.cs) v2.length false)])]) (args' := [(.agg [(.slc (v2.flatMap S_Cell.cs) v2.length false)])]) (sm := []) (r := [(o1, .row 24 1 [(.slc (v2.flatMap S_Cell.cs) v2.length false)] 0)]) rfl (by kernel_rfl) Try.func19 rfl rfl (arena_Open_ok K v2 _ hc6) (by kernel_rfl) (VW.refl _) (permTo [] (by kernel_rfl))) ?_
  rintro _ _ ⟨_, ⟨rfl, rfl⟩, rfl⟩
  refine at_run tt_ok 7 [(1, (.ref o1 0)), (3, (.tree v4)), (4, (.i v5))] rfl (by kernel_rfl) ?_
  refine at_end rfl ?_
  refine aw_seq ?_
  refine aw_seq ?_
  refine aw_reg ?_
  refine at_run tt_ok 2 [(1, (.ref o1 0)), (3, (.tree v4)), (17, (.b ((!decide (v5 = 0)))))] rfl (by kernel_rfl) ?_
  refine at_end rfl ?_
  refine aw_cond ((!decide (v5 = 0))) rfl (fun hb7 => ?_) (fun hb7 => ?_)
  · have h := ite_t hb7 h
    refine aw_seq ?_
    refine aw_reg ?_
    refine at_run tt_ok 1 [(18, (.tree v4))] rfl (by kernel_rfl) ?_
    cases v4 with
    | nil =>
      refine at_run tt_ok 3 [(20, (.b true))] rfl (by kernel_rfl) ?_
      obtain ⟨v8, hc9, h⟩ := bind_some' h
      refine at_op rfl rfl rfl (aop_call (first := []) (caps := []) (xs := []) (args' := []) (sm := []) (r := [(o1, .row 24 1 [(.slc (v2.flatMap S_Cell.cs) v2.length false)] 0)]) rfl (by kernel_rfl) Try.func18 rfl rfl (law04_works_ok K _ hc9) (by kernel_rfl) (VW.refl _) (permTo [] (by kernel_rfl))) ?_
      rintro _ _ ⟨_, ⟨rfl, rfl⟩, rfl⟩
      refine at_run tt_ok 6 [(2, (.b v8))] rfl (by kernel_rfl) ?_
      refine at_end rfl ?_
      refine aw_ret ?_
      obtain rfl := Option.some.inj h
      exact ⟨(.b v8), (.b v8), _, (res_tmps (by kernel_rfl)), (View.refl _), ⟨_, perm_sel _ [], List.take_sublist 0 _⟩, rfl, rfl⟩
    | node n10 n11 n12 n13 n14 =>
      refine at_run tt_ok 6 [(2, (.b false))] rfl (by kernel_rfl) ?_
      refine at_end rfl ?_
      refine aw_ret ?_
      obtain rfl := Option.some.inj h
      exact ⟨(.b false), (.b false), _, (res_tmps (by kernel_rfl)), (View.refl _), ⟨_, perm_sel _ [], List.take_sublist 0 _⟩, rfl, rfl⟩
  · have h := ite_f (by rw [hb7]; simp) h
    refine aw_skip ?_
    refine aw_seq ?_
    refine aw_reg ?_
    refine at_run tt_ok 1 [(1, (.ref o1 0)), (3, (.tree v4)), (24, (.tree v4))] rfl (by kernel_rfl) ?_
    obtain ⟨⟨v15, v16⟩, hc17, h⟩ := bind_some' h
    refine at_op rfl rfl rfl (aop_call (first := []) (caps := []) (xs := [(.tree v4)]) (args' := [(.tree v4)]) (sm := []) (r := [(o1, .row 24 1 [(.slc (v2.flatMap S_Cell.cs) v2.length false)] 0)]) rfl (by kernel_rfl) Try.func20 rfl rfl (arena_Pack_ok K v4 _ hc17) (by kernel_rfl) (VW.refl _) (permTo [] (by kernel_rfl))) ?_
    rintro _ _ ⟨_, ⟨rfl, rfl⟩, rfl⟩
    refine at_run tt_ok 5 [(1, (.ref o1 0)), (3, (.tree v4)), (26, (.agg [(.slc (v15.flatMap S_Cell.cs) v15.length false)])), (27, (.i v16))] rfl (by kernel_rfl) ?_
    refine at_op rfl rfl rfl (aop_alloc (zs := [(.slice none 0 0)]) tt_ok rfl rfl rfl) ?_
    rintro _ _ ⟨o18, rfl, rfl⟩
    refine at_one rfl rfl rfl (aop_storeRef (id := o18) (off := 0) (j := 0) (ds := [(.slc (v15.flatMap S_Cell.cs) v15.length false)]) tt_ok rfl rfl rfl rfl rfl) ?_
    refine at_run tt_ok 8 [(1, (.ref o1 0)), (3, (.tree v4)), (5, (.ref o18 0)), (6, (.i v16))] rfl (by kernel_rfl) ?_
    refine at_end rfl ?_
    refine aw_seq ?_
    refine aw_reg ?_
    refine at_one rfl rfl rfl (aop_loadRef (j := 0) (off := 0) (av := (.agg [(.slc (v15.flatMap S_Cell.cs) v15.length false)])) tt_ok rfl rfl rfl rfl) ?_
    obtain ⟨⟨v19, v20⟩, hc21, h⟩ := bind_some' h
    refine at_op rfl rfl rfl (aop_call (first := []) (caps := []) (xs := [(.agg [(.slc (v15.flatMap S_Cell.cs) v15.length false)])]) (args' := [(.agg [(.slc (v15.flatMap S_Cell.cs) v15.length false)])]) (sm := []) (r := [(o18, .row 24 1 [(.slc (v15.flatMap S_Cell.cs) v15.length false)] 0), (o1, .row 24 1 [(.slc (v2.flatMap S_Cell.cs) v2.length false)] 0)]) rfl (by kernel_rfl) Try.func19 rfl rfl (arena_Open_ok K v15 _ hc21) (by kernel_rfl) (VW.refl _) (permTo [] (by kernel_rfl))) ?_
    rintro _ _ ⟨_, ⟨rfl, rfl⟩, rfl⟩
    refine at_run tt_ok 7 [(1, (.ref o1 0)), (3, (.tree v4)), (5, (.ref o18 0)), (6, (.i v16)), (7, (.tree v19)), (8, (.i v20))] rfl (by kernel_rfl) ?_
    refine at_end rfl ?_
    refine aw_seq ?_
    refine aw_draw mixed (by kernel_rfl) ?_
    refine j_run tt_ok [0, 1, 2] [2, 1, 0] (by kernel_rfl) ?_
    by_cases hb22 : (decide (v16 = 0)) = true
    · have h := ite_t hb22 h
      refine j_setb 35 (by kernel_rfl) hb22 ?_
      refine j_run tt_ok [3, 4, 5, 6] [6, 5, 4, 3, 2, 1, 0] (by kernel_rfl) ?_
      by_cases hb23 : (decide (v20 = 0)) = true
      · have h := ite_t hb23 h
        refine j_setb 39 (by kernel_rfl) hb23 ?_
        refine j_run tt_ok [7, 10] [10, 7, 6, 5, 4, 3, 2, 1, 0] (by kernel_rfl) ?_
        refine j_light1 8 (o18, .row 24 1 [(.slc (v15.flatMap S_Cell.cs) v15.length false)] 0) rfl (by kernel_rfl) rfl (by kernel_rfl) (fun s hq => (aop_loadM (av := (.slc (v15.flatMap S_Cell.cs) v15.length false)) (off := 0) tt_ok hq rfl (by kernel_rfl) (by kernel_rfl))) (j := 0) rfl ?_
        refine j_run tt_ok [9] [9, 8, 10, 7, 6, 5, 4, 3, 2, 1, 0] (by kernel_rfl) ?_
        refine j_light1 11 (o1, .row 24 1 [(.slc (v2.flatMap S_Cell.cs) v2.length false)] 0) rfl (by kernel_rfl) rfl (by kernel_rfl) (fun s hq => (aop_loadM (av := (.slc (v2.flatMap S_Cell.cs) v2.length false)) (off := 0) tt_ok hq rfl (by kernel_rfl) (by kernel_rfl))) (j := 1) rfl ?_
        refine j_run tt_ok [12, 13, 14, 15] [15, 14, 13, 12, 11, 9, 8, 10, 7, 6, 5, 4, 3, 2, 1, 0] (by kernel_rfl) ?_
        by_cases hb24 : (decide ((((v15.length : Nat) : Int)) = (((v2.length : Nat) : Int)))) = true
        · have h := ite_t hb24 h
          refine j_setb 48 (by kernel_rfl) hb24 ?_
          refine j_run tt_ok [16, 17] [17, 16, 15, 14, 13, 12, 11, 9, 8, 10, 7, 6, 5, 4, 3, 2, 1, 0] (by kernel_rfl) ?_
          obtain ⟨v27, hc28, h⟩ := bind_some' h
          refine .heavy 18 _ _ rfl (by kernel_rfl) rfl (by kernel_rfl) (aop_call (first := []) (caps := []) (xs := [(.tree v4), (.tree v19)]) (args' := [(.tree v4), (.tree v19)]) (sm := []) (r := [(o18, .row 24 1 [(.slc (v15.flatMap S_Cell.cs) v15.length false)] 0), (o1, .row 24 1 [(.slc (v2.flatMap S_Cell.cs) v2.length false)] 0)]) rfl (by kernel_rfl) Try.func11 rfl rfl (arena_Same_ok K v4 v19 _ hc28) (by kernel_rfl) (VW.refl _) (permTo [] (by kernel_rfl))) ?_ ?_
          · rintro _ _ ⟨_, ⟨rfl, rfl⟩, rfl⟩ l hl
            rcases List.mem_cons.1 hl with rfl | hl
            · exact .inr (fun p hp => by rw [List.mem_singleton.1 hp]; exact List.mem_of_getElem? (i := 1) rfl)
            · rcases List.mem_cons.1 hl with rfl | hl
              · exact .inr (fun p hp => by rw [List.mem_singleton.1 hp]; exact List.mem_of_getElem? (i := 0) rfl)
              · cases hl
          rintro _ _ ⟨_, ⟨rfl, rfl⟩, rfl⟩
          refine j_run tt_ok [19, 20] [20, 19, 18, 17, 16, 15, 14, 13, 12, 11, 9, 8, 10, 7, 6, 5, 4, 3, 2, 1, 0] (by kernel_rfl) ?_
          by_cases hb29 : v27 = true
          · have h := ite_t hb29 h
            refine j_setb 53 (by kernel_rfl) hb29 ?_
            refine j_run tt_ok [21, 23] [23, 21, 20, 19, 18, 17, 16, 15, 14, 13, 12, 11, 9, 8, 10, 7, 6, 5, 4, 3, 2, 1, 0] (by kernel_rfl) ?_
            refine j_light1 24 (o1, .row 24 1 [(.slc (v2.flatMap S_Cell.cs) v2.length false)] 0) rfl (by kernel_rfl) rfl (by kernel_rfl) (fun s hq => (aop_loadM (av := (.slc (v2.flatMap S_Cell.cs) v2.length false)) (off := 0) tt_ok hq rfl (by kernel_rfl) (by kernel_rfl))) (j := 1) rfl ?_
            refine j_run tt_ok [25] [25, 24, 23, 21, 20, 19, 18, 17, 16, 15, 14, 13, 12, 11, 9, 8, 10, 7, 6, 5, 4, 3, 2, 1, 0] (by kernel_rfl) ?_
            obtain ⟨v34, hc35, h⟩ := bind_some' h
            refine .heavy 22 _ _ rfl (by kernel_rfl) rfl (by kernel_rfl) (aop_call (first := []) (caps := []) (xs := [(.tree v4)]) (args' := [(.tree v4)]) (sm := []) (r := [(o18, .row 24 1 [(.slc (v15.flatMap S_Cell.cs) v15.length false)] 0), (o1, .row 24 1 [(.slc (v2.flatMap S_Cell.cs) v2.length false)] 0)]) rfl (by kernel_rfl) Try.func13 rfl rfl (arena_Size_ok K v4 _ hc35) (by kernel_rfl) (VW.refl _) (permTo [] (by kernel_rfl))) ?_ ?_
            · rintro _ _ ⟨_, ⟨rfl, rfl⟩, rfl⟩ l hl
              rcases List.mem_cons.1 hl with rfl | hl
              · exact .inr (fun p hp => by rw [List.mem_singleton.1 hp]; exact List.mem_of_getElem? (i := 1) rfl)
              · rcases List.mem_cons.1 hl with rfl | hl
                · exact .inr (fun p hp => by rw [List.mem_singleton.1 hp]; exact List.mem_of_getElem? (i := 1) rfl)
                · rcases List.mem_cons.1 hl with rfl | hl
                  · exact .inr (fun p hp => by rw [List.mem_singleton.1 hp]; exact List.mem_of_getElem? (i := 0) rfl)
                  · cases hl
            rintro _ _ ⟨_, ⟨rfl, rfl⟩, rfl⟩
            refine j_run tt_ok [26, 27, 28] [28, 27, 26, 22, 25, 24, 23, 21, 20, 19, 18, 17, 16, 15, 14, 13, 12, 11, 9, 8, 10, 7, 6, 5, 4, 3, 2, 1, 0] (by kernel_rfl) ?_
            by_cases hb36 : (decide (v34 = (((v2.length : Nat) : Int)))) = true
            · have h := ite_t hb36 h
              refine j_setb 61 (by kernel_rfl) hb36 ?_
              obtain ⟨v39, hc40, h⟩ := bind_some' h
              refine .heavy 29 _ _ rfl (by kernel_rfl) rfl (by kernel_rfl) (aop_call (first := []) (caps := []) (xs := []) (args' := []) (sm := []) (r := [(o18, .row 24 1 [(.slc (v15.flatMap S_Cell.cs) v15.length false)] 0), (o1, .row 24 1 [(.slc (v2.flatMap S_Cell.cs) v2.length false)] 0)]) rfl (by kernel_rfl) Try.func18 rfl rfl (law04_works_ok K _ hc40) (by kernel_rfl) (VW.refl _) (permTo [] (by kernel_rfl))) ?_ ?_
              · rintro _ _ ⟨_, ⟨rfl, rfl⟩, rfl⟩ l hl
                rcases List.mem_cons.1 hl with rfl | hl
                · exact .inr (fun p hp => by rw [List.mem_singleton.1 hp]; exact List.mem_of_getElem? (i := 1) rfl)
                · rcases List.mem_cons.1 hl with rfl | hl
                  · exact .inr (fun p hp => by rw [List.mem_singleton.1 hp]; exact List.mem_of_getElem? (i := 1) rfl)
                  · rcases List.mem_cons.1 hl with rfl | hl
                    · exact .inr (fun p hp => by rw [List.mem_singleton.1 hp]; exact List.mem_of_getElem? (i := 0) rfl)
                    · cases hl
              rintro _ _ ⟨_, ⟨rfl, rfl⟩, rfl⟩
              refine j_run tt_ok [30, 31] [31, 30, 29, 28, 27, 26, 22, 25, 24, 23, 21, 20, 19, 18, 17, 16, 15, 14, 13, 12, 11, 9, 8, 10, 7, 6, 5, 4, 3, 2, 1, 0] (by kernel_rfl) ?_
              refine .done (by kernel_rfl) ?_
              refine aw_normal [(2, (.b v39))] (s' := [(o18, .row 24 1 [(.slc (v15.flatMap S_Cell.cs) v15.length false)] 0), (o1, .row 24 1 [(.slc (v2.flatMap S_Cell.cs) v2.length false)] 0)]) (by kernel_rfl) rfl ?_
              refine aw_ret ?_
              obtain rfl := Option.some.inj h
              exact ⟨(.b v39), (.b v39), _, (res_tmps (by kernel_rfl)), (View.refl _), ⟨_, perm_sel _ [], List.take_sublist 0 _⟩, rfl, rfl⟩
            · have h := ite_f hb36 h
              refine j_setb 61 (by kernel_rfl) (nott hb36) ?_
              refine j_run tt_ok [29, 30, 31] [31, 30, 29, 28, 27, 26, 22, 25, 24, 23, 21, 20, 19, 18, 17, 16, 15, 14, 13, 12, 11, 9, 8, 10, 7, 6, 5, 4, 3, 2, 1, 0] (by kernel_rfl) ?_
              refine .done (by kernel_rfl) ?_
              refine aw_normal [(2, (.b false))] (s' := [(o18, .row 24 1 [(.slc (v15.flatMap S_Cell.cs) v15.length false)] 0), (o1, .row 24 1 [(.slc (v2.flatMap S_Cell.cs) v2.length false)] 0)]) (by kernel_rfl) rfl ?_
              refine aw_ret ?_
              obtain rfl := Option.some.inj h
              exact ⟨(.b false), (.b false), _, (res_tmps (by kernel_rfl)), (View.refl _), ⟨_, perm_sel _ [], List.take_sublist 0 _⟩, rfl, rfl⟩
          · have h := ite_f hb29 h
            refine j_setb 53 (by kernel_rfl) (nott hb29) ?_
            refine j_run tt_ok [21, 22, 23, 24, 25, 26, 27, 28, 29, 30, 31] [31, 30, 29, 28, 27, 26, 25, 24, 23, 22, 21, 20, 19, 18, 17, 16, 15, 14, 13, 12, 11, 9, 8, 10, 7, 6, 5, 4, 3, 2, 1, 0] (by kernel_rfl) ?_
            refine .done (by kernel_rfl) ?_
            refine aw_normal [(2, (.b false))] (s' := [(o18, .row 24 1 [(.slc (v15.flatMap S_Cell.cs) v15.length false)] 0), (o1, .row 24 1 [(.slc (v2.flatMap S_Cell.cs) v2.length false)] 0)]) (by kernel_rfl) rfl ?_
            refine aw_ret ?_
            obtain rfl := Option.some.inj h
            exact ⟨(.b false), (.b false), _, (res_tmps (by kernel_rfl)), (View.refl _), ⟨_, perm_sel _ [], List.take_sublist 0 _⟩, rfl, rfl⟩
        · have h := ite_f hb24 h
          refine j_setb 48 (by kernel_rfl) (nott hb24) ?_
          refine j_run tt_ok [16, 17, 18, 19, 20, 21, 22, 23, 24, 25, 26, 27, 28, 29, 30, 31] [31, 30, 29, 28, 27, 26, 25, 24, 23, 22, 21, 20, 19, 18, 17, 16, 15, 14, 13, 12, 11, 9, 8, 10, 7, 6, 5, 4, 3, 2, 1, 0] (by kernel_rfl) ?_
          refine .done (by kernel_rfl) ?_
          refine aw_normal [(2, (.b false))] (s' := [(o18, .row 24 1 [(.slc (v15.flatMap S_Cell.cs) v15.length false)] 0), (o1, .row 24 1 [(.slc (v2.flatMap S_Cell.cs) v2.length false)] 0)]) (by kernel_rfl) rfl ?_
          refine aw_ret ?_
          obtain rfl := Option.some.inj h
          exact ⟨(.b false), (.b false), _, (res_tmps (by kernel_rfl)), (View.refl _), ⟨_, perm_sel _ [], List.take_sublist 0 _⟩, rfl, rfl⟩
      · have h := ite_f hb23 h
        refine j_setb 39 (by kernel_rfl) (nott hb23) ?_
        refine j_run tt_ok [7, 8, 9, 10, 11, 12, 13, 14, 15, 16, 17, 18, 19, 20, 21, 22, 23, 24, 25, 26, 27, 28, 29, 30, 31] [31, 30, 29, 28, 27, 26, 25, 24, 23, 22, 21, 20, 19, 18, 17, 16, 15, 14, 13, 12, 11, 10, 9, 8, 7, 6, 5, 4, 3, 2, 1, 0] (by kernel_rfl) ?_
        refine .done (by kernel_rfl) ?_
        refine aw_normal [(2, (.b false))] (s' := [(o18, .row 24 1 [(.slc (v15.flatMap S_Cell.cs) v15.length false)] 0), (o1, .row 24 1 [(.slc (v2.flatMap S_Cell.cs) v2.length false)] 0)]) (by kernel_rfl) rfl ?_
        refine aw_ret ?_
        obtain rfl := Option.some.inj h
        exact ⟨(.b false), (.b false), _, (res_tmps (by kernel_rfl)), (View.refl _), ⟨_, perm_sel _ [], List.take_sublist 0 _⟩, rfl, rfl⟩
    · have h := ite_f hb22 h
      refine j_setb 35 (by kernel_rfl) (nott hb22) ?_
      refine j_run tt_ok [3, 4, 5, 6, 7, 8, 9, 10, 11, 12, 13, 14, 15, 16, 17, 18, 19, 20, 21, 22, 23, 24, 25, 26, 27, 28, 29, 30, 31] [31, 30, 29, 28, 27, 26, 25, 24, 23, 22, 21, 20, 19, 18, 17, 16, 15, 14, 13, 12, 11, 10, 9, 8, 7, 6, 5, 4, 3, 2, 1, 0] (by kernel_rfl) ?_
      refine .done (by kernel_rfl) ?_
      refine aw_normal [(2, (.b false))] (s' := [(o18, .row 24 1 [(.slc (v15.flatMap S_Cell.cs) v15.length false)] 0), (o1, .row 24 1 [(.slc (v2.flatMap S_Cell.cs) v2.length false)] 0)]) (by kernel_rfl) rfl ?_
      refine aw_ret ?_
      obtain rfl := Option.some.inj h
      exact ⟨(.b false), (.b false), _, (res_tmps (by kernel_rfl)), (View.refl _), ⟨_, perm_sel _ [], List.take_sublist 0 _⟩, rfl, rfl⟩
theorem arena_At_ok (K : Nat) : ∀ (p0 : Tr) (p1 : List Int) (r : Tr × Int), arena_At K p0 p1 = some r → ACalls Try.prog 23 [(.tree p0), (.slc (p1.map AV.i) p1.length false)] [] (fun av s => av = (.tup [(.tree r.1), (.i r.2)]) ∧ s = []) := by
  intro p0 p1 r h
  refine acalls_enter Try.func23 rfl rfl ?_
  refine aw_seq ?_
  refine aw_normal [(0, (.tree p0)), (1, (.slc (p1.map AV.i) p1.length false))] (s' := []) (by kernel_rfl) rfl ?_
  refine aw_reg ?_
  refine at_run tt_ok 2 [(0, (.tree p0)), (1, (.slc (p1.map AV.i) p1.length false))] rfl (by kernel_rfl) ?_
  refine at_end rfl ?_
  refine aw_seq ?_
  refine aw_seq ?_
  refine aw_reg ?_
  refine at_run tt_ok 1 [(0, (.tree p0)), (1, (.slc (p1.map AV.i) p1.length false)), (8, (.tree p0))] rfl (by kernel_rfl) ?_
  cases p0 with
  | nil =>
    refine at_run tt_ok 2 [(0, (.tree (.nil))), (1, (.slc (p1.map AV.i) p1.length false)), (9, (.b true))] rfl (by kernel_rfl) ?_
    refine at_end rfl ?_
    refine aw_cond true rfl (fun _ => ?_) (fun h => by cases h)
    refine aw_seq ?_
    refine aw_reg ?_
    refine at_run tt_ok 2 [(4, .nil), (5, (.i 1))] rfl (by kernel_rfl) ?_
    refine at_end rfl ?_
    refine aw_ret ?_
    obtain rfl := Option.some.inj h
    exact ⟨(.tup [.nil, (.i 1)]), (.tup [(.tree (.nil)), (.i 1)]), _, (res_tmps (by kernel_rfl)), (View.tup (VW.cons (View.of_weak Weak.nil_tree) (VW.same VW.nil))), ⟨_, perm_sel _ [], List.take_sublist 0 _⟩, rfl, rfl⟩
  | node n1 n2 n3 n4 n5 =>
    refine at_run tt_ok 2 [(0, (.tree ((.node n1 n2 n3 n4 n5)))), (1, (.slc (p1.map AV.i) p1.length false)), (9, (.b false))] rfl (by kernel_rfl) ?_
    refine at_end rfl ?_
    refine aw_cond false rfl (fun h => by cases h) (fun _ => ?_)
    refine aw_skip ?_
    refine aw_seq ?_
    refine aw_seq ?_
    refine aw_reg ?_
    refine at_run tt_ok 3 [(0, (.tree ((.node n1 n2 n3 n4 n5)))), (10, (.slc (p1.map AV.i) p1.length false)), (11, (.i (((p1.length : Nat) : Int)))), (12, (.i 0))] rfl (by kernel_rfl) ?_
    refine at_end rfl ?_
    refine aw_block ?_
    refine aw_loop_ind' (X := Tr × Int) (fun k' x => k' ≤ K ∧ arena_At_l0 k' p1 x.1 x.2 = some r) (fun x => [(0, (.tree x.1)), (10, (.slc (p1.map AV.i) p1.length false)), (11, (.i (((p1.length : Nat) : Int)))), (12, (.i x.2))]) (fun x => []) (fun x hx => by cases hx.2) ?_ K ((.node n1 n2 n3 n4 n5), 0) ⟨Nat.le_refl _, h⟩ (by kernel_rfl) rfl
    clear h
    rintro k9 ⟨w0_1, w0_2⟩ ⟨hlek9, h⟩
    refine aw_seq ?_
    refine aw_reg ?_
    refine at_run tt_ok 1 [(0, (.tree w0_1)), (10, (.slc (p1.map AV.i) p1.length false)), (11, (.i (((p1.length : Nat) : Int)))), (12, (.i w0_2)), (13, (.b ((decide (w0_2 < (((p1.length : Nat) : Int)))))))] rfl (by kernel_rfl) ?_
    refine at_end rfl ?_
    refine aw_seq ?_
    refine aw_cond ((decide (w0_2 < (((p1.length : Nat) : Int))))) rfl (fun hb10 => ?_) (fun hb10 => ?_)
    · have h := ite_t hb10 h
      refine aw_skip ?_
      refine aw_seq ?_
      refine aw_block ?_
      refine aw_seq ?_
      refine aw_reg ?_
      obtain ⟨v11, hv11, h⟩ := bind_some' h
      refine at_one rfl rfl rfl (aop_idx1 (k := .i64) (g := AV.i) (l := p1) (fu := false) (j := w0_2) (v := v11) tt_ok rfl rfl rfl rfl rfl hv11) ?_
      refine at_run tt_ok 3 [(0, (.tree w0_1)), (7, (.i v11)), (10, (.slc (p1.map AV.i) p1.length false)), (11, (.i (((p1.length : Nat) : Int)))), (12, (.i w0_2))] rfl (by kernel_rfl) ?_
      refine at_end rfl ?_
      refine aw_seq ?_
      refine aw_seq ?_
      refine aw_reg ?_
      refine at_run tt_ok 3 [(0, (.tree w0_1)), (7, (.i v11)), (10, (.slc (p1.map AV.i) p1.length false)), (11, (.i (((p1.length : Nat) : Int)))), (12, (.i w0_2)), (18, (.b ((decide (v11 < 0)))))] rfl (by kernel_rfl) ?_
      by_cases hb12 : (decide (v11 < 0)) = true
      · have h := ite_t hb12 h
        refine at_setb 18 rfl hb12 ?_
        refine at_run tt_ok 21 [(0, (.tree w0_1)), (7, (.i v11)), (10, (.slc (p1.map AV.i) p1.length false)), (11, (.i (((p1.length : Nat) : Int)))), (12, (.i w0_2)), (36, (.b true))] rfl (by kernel_rfl) ?_
        refine at_end rfl ?_
        refine aw_cond true rfl (fun _ => ?_) (fun h => by cases h)
        refine aw_seq ?_
        refine aw_reg ?_
        refine at_run tt_ok 2 [(4, .nil), (5, (.i 21))] rfl (by kernel_rfl) ?_
        refine at_end rfl ?_
        refine aw_ret ?_
        obtain rfl := Option.some.inj h
        exact ⟨(.tup [.nil, (.i 21)]), (.tup [(.tree (.nil)), (.i 21)]), _, (res_tmps (by kernel_rfl)), (View.tup (VW.cons (View.of_weak Weak.nil_tree) (VW.same VW.nil))), ⟨_, perm_sel _ [], List.take_sublist 0 _⟩, rfl, rfl⟩
      · have h := ite_f hb12 h
        refine at_setb 18 rfl (nott hb12) ?_
        refine at_run tt_ok 5 [(0, (.tree w0_1)), (7, (.i v11)), (10, (.slc (p1.map AV.i) p1.length false)), (11, (.i (((p1.length : Nat) : Int)))), (12, (.i w0_2)), (18, (.b false)), (19, (.i v11)), (20, (.tree w0_1))] rfl (by kernel_rfl) ?_
        cases w0_1 with
        | nil =>
          cases h
        | node n13 n14 n15 n16 n17 =>
          refine at_run tt_ok 12 [(0, (.tree ((.node n13 n14 n15 n16 n17)))), (7, (.i v11)), (10, (.slc (p1.map AV.i) p1.length false)), (11, (.i (((p1.length : Nat) : Int)))), (12, (.i w0_2)), (19, (.i v11)), (20, (.tree ((.node n13 n14 n15 n16 n17)))), (21, (.ptr [(.i n13), (.i n14), (.s n15), (.s n16), (.slc (n17.map AV.tree) n17.length false)])), (22, (.ptr [(.slc (n17.map AV.tree) n17.length false)])), (23, (.slc (n17.map AV.tree) n17.length false)), (24, (.i (((n17.length : Nat) : Int)))), (25, (.b ((decide ((((n17.length : Nat) : Int)) ≤ v11))))), (27, (.b ((decide ((((n17.length : Nat) : Int)) ≤ v11)))))] rfl (by kernel_rfl) ?_
          by_cases hb18 : (decide ((((n17.length : Nat) : Int)) ≤ v11)) = true
          · have h := ite_t hb18 h
            refine at_setb 25 rfl hb18 ?_
            refine at_setb 27 rfl hb18 ?_
            refine at_run tt_ok 21 [(0, (.tree ((.node n13 n14 n15 n16 n17)))), (7, (.i v11)), (10, (.slc (p1.map AV.i) p1.length false)), (11, (.i (((p1.length : Nat) : Int)))), (12, (.i w0_2)), (19, (.i v11)), (20, (.tree ((.node n13 n14 n15 n16 n17)))), (21, (.ptr [(.i n13), (.i n14), (.s n15), (.s n16), (.slc (n17.map AV.tree) n17.length false)])), (22, (.ptr [(.slc (n17.map AV.tree) n17.length false)])), (23, (.slc (n17.map AV.tree) n17.length false)), (24, (.i (((n17.length : Nat) : Int)))), (25, (.b true)), (36, (.b true))] rfl (by kernel_rfl) ?_
            refine at_end rfl ?_
            refine aw_cond true rfl (fun _ => ?_) (fun h => by cases h)
            refine aw_seq ?_
            refine aw_reg ?_
            refine at_run tt_ok 2 [(4, .nil), (5, (.i 21))] rfl (by kernel_rfl) ?_
            refine at_end rfl ?_
            refine aw_ret ?_
            obtain rfl := Option.some.inj h
            exact ⟨(.tup [.nil, (.i 21)]), (.tup [(.tree (.nil)), (.i 21)]), _, (res_tmps (by kernel_rfl)), (View.tup (VW.cons (View.of_weak Weak.nil_tree) (VW.same VW.nil))), ⟨_, perm_sel _ [], List.take_sublist 0 _⟩, rfl, rfl⟩
          · have h := ite_f hb18 h
            refine at_setb 25 rfl (nott hb18) ?_
            refine at_setb 27 rfl (nott hb18) ?_
            refine at_run tt_ok 17 [(0, (.tree ((.node n13 n14 n15 n16 n17)))), (7, (.i v11)), (10, (.slc (p1.map AV.i) p1.length false)), (11, (.i (((p1.length : Nat) : Int)))), (12, (.i w0_2)), (19, (.i v11)), (20, (.tree ((.node n13 n14 n15 n16 n17)))), (21, (.ptr [(.i n13), (.i n14), (.s n15), (.s n16), (.slc (n17.map AV.tree) n17.length false)])), (22, (.ptr [(.slc (n17.map AV.tree) n17.length false)])), (23, (.slc (n17.map AV.tree) n17.length false)), (24, (.i (((n17.length : Nat) : Int)))), (25, (.b false)), (27, (.b false)), (28, (.tree ((.node n13 n14 n15 n16 n17)))), (29, (.ptr [(.i n13), (.i n14), (.s n15), (.s n16), (.slc (n17.map AV.tree) n17.length false)])), (30, (.ptr [(.slc (n17.map AV.tree) n17.length false)])), (31, (.slc (n17.map AV.tree) n17.length false)), (32, (.i v11))] rfl (by kernel_rfl) ?_
            obtain ⟨v19, hv19, h⟩ := bind_some' h
            refine at_one rfl rfl rfl (aop_idx1 (k := .i64) (g := AV.tree) (l := n17) (fu := false) (j := v11) (v := v19) tt_ok rfl rfl rfl rfl rfl hv19) ?_
            refine at_run tt_ok 19 [(0, (.tree ((.node n13 n14 n15 n16 n17)))), (7, (.i v11)), (10, (.slc (p1.map AV.i) p1.length false)), (11, (.i (((p1.length : Nat) : Int)))), (12, (.i w0_2)), (19, (.i v11)), (20, (.tree ((.node n13 n14 n15 n16 n17)))), (21, (.ptr [(.i n13), (.i n14), (.s n15), (.s n16), (.slc (n17.map AV.tree) n17.length false)])), (22, (.ptr [(.slc (n17.map AV.tree) n17.length false)])), (23, (.slc (n17.map AV.tree) n17.length false)), (24, (.i (((n17.length : Nat) : Int)))), (25, (.b false)), (27, (.b false)), (28, (.tree ((.node n13 n14 n15 n16 n17)))), (29, (.ptr [(.i n13), (.i n14), (.s n15), (.s n16), (.slc (n17.map AV.tree) n17.length false)])), (30, (.ptr [(.slc (n17.map AV.tree) n17.length false)])), (31, (.slc (n17.map AV.tree) n17.length false)), (32, (.i v11)), (33, (.ptr [(.tree v19)])), (34, (.tree v19))] rfl (by kernel_rfl) ?_
            cases v19 with
            | nil =>
              refine at_run tt_ok 21 [(0, (.tree ((.node n13 n14 n15 n16 n17)))), (7, (.i v11)), (10, (.slc (p1.map AV.i) p1.length false)), (11, (.i (((p1.length : Nat) : Int)))), (12, (.i w0_2)), (19, (.i v11)), (20, (.tree ((.node n13 n14 n15 n16 n17)))), (21, (.ptr [(.i n13), (.i n14), (.s n15), (.s n16), (.slc (n17.map AV.tree) n17.length false)])), (22, (.ptr [(.slc (n17.map AV.tree) n17.length false)])), (23, (.slc (n17.map AV.tree) n17.length false)), (24, (.i (((n17.length : Nat) : Int)))), (25, (.b false)), (28, (.tree ((.node n13 n14 n15 n16 n17)))), (29, (.ptr [(.i n13), (.i n14), (.s n15), (.s n16), (.slc (n17.map AV.tree) n17.length false)])), (30, (.ptr [(.slc (n17.map AV.tree) n17.length false)])), (31, (.slc (n17.map AV.tree) n17.length false)), (32, (.i v11)), (33, (.ptr [(.tree (.nil))])), (34, (.tree (.nil))), (35, (.b true)), (36, (.b true))] rfl (by kernel_rfl) ?_
              refine at_end rfl ?_
              refine aw_cond true rfl (fun _ => ?_) (fun h => by cases h)
              refine aw_seq ?_
              refine aw_reg ?_
              refine at_run tt_ok 2 [(4, .nil), (5, (.i 21))] rfl (by kernel_rfl) ?_
              refine at_end rfl ?_
              refine aw_ret ?_
              obtain rfl := Option.some.inj h
              exact ⟨(.tup [.nil, (.i 21)]), (.tup [(.tree (.nil)), (.i 21)]), _, (res_tmps (by kernel_rfl)), (View.tup (VW.cons (View.of_weak Weak.nil_tree) (VW.same VW.nil))), ⟨_, perm_sel _ [], List.take_sublist 0 _⟩, rfl, rfl⟩
            | node n20 n21 n22 n23 n24 =>
              refine at_run tt_ok 21 [(0, (.tree ((.node n13 n14 n15 n16 n17)))), (7, (.i v11)), (10, (.slc (p1.map AV.i) p1.length false)), (11, (.i (((p1.length : Nat) : Int)))), (12, (.i w0_2)), (19, (.i v11)), (20, (.tree ((.node n13 n14 n15 n16 n17)))), (21, (.ptr [(.i n13), (.i n14), (.s n15), (.s n16), (.slc (n17.map AV.tree) n17.length false)])), (22, (.ptr [(.slc (n17.map AV.tree) n17.length false)])), (23, (.slc (n17.map AV.tree) n17.length false)), (24, (.i (((n17.length : Nat) : Int)))), (25, (.b false)), (28, (.tree ((.node n13 n14 n15 n16 n17)))), (29, (.ptr [(.i n13), (.i n14), (.s n15), (.s n16), (.slc (n17.map AV.tree) n17.length false)])), (30, (.ptr [(.slc (n17.map AV.tree) n17.length false)])), (31, (.slc (n17.map AV.tree) n17.length false)), (32, (.i v11)), (33, (.ptr [(.tree ((.node n20 n21 n22 n23 n24)))])), (34, (.tree ((.node n20 n21 n22 n23 n24)))), (35, (.b false)), (36, (.b false))] rfl (by kernel_rfl) ?_
              refine at_end rfl ?_
              refine aw_cond false rfl (fun h => by cases h) (fun _ => ?_)
              refine aw_skip ?_
              refine aw_reg ?_
              refine at_run tt_ok 5 [(10, (.slc (p1.map AV.i) p1.length false)), (11, (.i (((p1.length : Nat) : Int)))), (12, (.i w0_2)), (19, (.i v11)), (20, (.tree ((.node n13 n14 n15 n16 n17)))), (21, (.ptr [(.i n13), (.i n14), (.s n15), (.s n16), (.slc (n17.map AV.tree) n17.length false)])), (22, (.ptr [(.slc (n17.map AV.tree) n17.length false)])), (23, (.slc (n17.map AV.tree) n17.length false)), (24, (.i (((n17.length : Nat) : Int)))), (25, (.b false)), (28, (.tree ((.node n13 n14 n15 n16 n17)))), (29, (.ptr [(.i n13), (.i n14), (.s n15), (.s n16), (.slc (n17.map AV.tree) n17.length false)])), (30, (.ptr [(.slc (n17.map AV.tree) n17.length false)])), (31, (.slc (n17.map AV.tree) n17.length false)), (32, (.i v11)), (33, (.ptr [(.tree ((.node n20 n21 n22 n23 n24)))])), (34, (.tree ((.node n20 n21 n22 n23 n24)))), (35, (.b false)), (40, (.slc (n17.map AV.tree) n17.length false)), (41, (.i v11))] rfl (by kernel_rfl) ?_
              obtain ⟨v25, hv25, h⟩ := bind_some' h
              refine at_one rfl rfl rfl (aop_idx1 (k := .i64) (g := AV.tree) (l := n17) (fu := false) (j := v11) (v := v25) tt_ok rfl rfl rfl rfl rfl hv25) ?_
              refine at_run tt_ok 8 [(0, (.tree v25)), (10, (.slc (p1.map AV.i) p1.length false)), (11, (.i (((p1.length : Nat) : Int)))), (12, (.i w0_2)), (19, (.i v11)), (20, (.tree ((.node n13 n14 n15 n16 n17)))), (21, (.ptr [(.i n13), (.i n14), (.s n15), (.s n16), (.slc (n17.map AV.tree) n17.length false)])), (22, (.ptr [(.slc (n17.map AV.tree) n17.length false)])), (23, (.slc (n17.map AV.tree) n17.length false)), (24, (.i (((n17.length : Nat) : Int)))), (25, (.b false)), (28, (.tree ((.node n13 n14 n15 n16 n17)))), (29, (.ptr [(.i n13), (.i n14), (.s n15), (.s n16), (.slc (n17.map AV.tree) n17.length false)])), (30, (.ptr [(.slc (n17.map AV.tree) n17.length false)])), (31, (.slc (n17.map AV.tree) n17.length false)), (32, (.i v11)), (33, (.ptr [(.tree ((.node n20 n21 n22 n23 n24)))])), (34, (.tree ((.node n20 n21 n22 n23 n24)))), (35, (.b false))] rfl (by kernel_rfl) ?_
              refine at_end rfl ?_
              refine aw_reg ?_
              refine at_run tt_ok 2 [(0, (.tree v25)), (10, (.slc (p1.map AV.i) p1.length false)), (11, (.i (((p1.length : Nat) : Int)))), (12, (.i ((IntKind.i64.wrap (w0_2 + 1))))), (19, (.i v11)), (20, (.tree ((.node n13 n14 n15 n16 n17)))), (21, (.ptr [(.i n13), (.i n14), (.s n15), (.s n16), (.slc (n17.map AV.tree) n17.length false)])), (22, (.ptr [(.slc (n17.map AV.tree) n17.length false)])), (23, (.slc (n17.map AV.tree) n17.length false)), (24, (.i (((n17.length : Nat) : Int)))), (25, (.b false)), (28, (.tree ((.node n13 n14 n15 n16 n17)))), (29, (.ptr [(.i n13), (.i n14), (.s n15), (.s n16), (.slc (n17.map AV.tree) n17.length false)])), (30, (.ptr [(.slc (n17.map AV.tree) n17.length false)])), (31, (.slc (n17.map AV.tree) n17.length false)), (32, (.i v11)), (33, (.ptr [(.tree ((.node n20 n21 n22 n23 n24)))])), (34, (.tree ((.node n20 n21 n22 n23 n24)))), (35, (.b false))] rfl (by kernel_rfl) ?_
              refine at_end rfl ?_
              exact ⟨k9, (v25, (IntKind.i64.wrap (w0_2 + 1))), [], [], by omega, ⟨by omega, h⟩, by kernel_rfl, rfl⟩
    · have h := ite_f (by rw [hb10]; simp) h
      refine aw_exit ?_
      refine aw_seq ?_
      refine aw_reg ?_
      refine at_run tt_ok 3 [(4, (.tree w0_1)), (5, (.i 0))] rfl (by kernel_rfl) ?_
      refine at_end rfl ?_
      refine aw_ret ?_
      obtain rfl := Option.some.inj h
      exact ⟨(.tup [(.tree w0_1), (.i 0)]), (.tup [(.tree w0_1), (.i 0)]), _, (res_tmps (by kernel_rfl)), (View.refl _), ⟨_, perm_sel _ [], List.take_sublist 0 _⟩, rfl, rfl⟩
theorem slices_Clone_ok (K : Nat) : ∀ (p0 : List Int) (r : (List Int)), slices_Clone K p0 = some r → ACalls Try.prog 41 [(.slc (p0.map AV.i) p0.length false)] [] (fun av s => av = (.slc (r.map AV.i) r.length false) ∧ s = []) := by
  intro p0 r h
  refine acalls_enter Try.func41 rfl rfl ?_
  refine aw_seq ?_
  refine aw_normal [(0, (.slc (p0.map AV.i) p0.length false))] (s' := []) (by kernel_rfl) rfl ?_
  refine aw_reg ?_
  refine at_run tt_ok 1 [(0, (.slc (p0.map AV.i) p0.length false))] rfl (by kernel_rfl) ?_
  refine at_end rfl ?_
  refine aw_seq ?_
  refine aw_seq ?_
  refine aw_slcCases 0 rfl (fun hn52 _ => ?_) ?_
  · obtain rfl : p0 = [] := List.length_eq_zero_iff.1 hn52
    have h : (some (([] : List Int))) = some r := by first | exact h | simpa [appL] using h
    refine aw_reg ?_
    refine at_run tt_ok 2 [(0, (.lit (.slice none 0 0))), (4, (.b true))] rfl (by kernel_rfl) ?_
    refine at_end rfl ?_
    refine aw_cond true rfl (fun _ => ?_) (fun h => by cases h)
    refine aw_seq ?_
    refine aw_reg ?_
    refine at_run tt_ok 1 [(2, (.lit (.slice none 0 0)))] rfl (by kernel_rfl) ?_
    refine at_end rfl ?_
    refine aw_ret ?_
    obtain rfl := Option.some.inj h
    exact ⟨(.lit (.slice none 0 0)), (.slc ((([] : List Int)).map AV.i) (([] : List Int)).length false), _, (res_tmps (by kernel_rfl)), (View.of_weak (Weak.nil_slc false)), ⟨_, perm_sel _ [], List.take_sublist 0 _⟩, rfl, rfl⟩
  · refine aw_reg ?_
    refine at_run tt_ok 2 [(0, (.nslc (p0.map AV.i) p0.length false)), (4, (.b false))] rfl (by kernel_rfl) ?_
    refine at_end rfl ?_
    refine aw_shift (Shift.weak 0 rfl (Weak.nslc _ _ _)) ?_
    refine aw_normal [(0, (.slc (p0.map AV.i) p0.length false)), (4, (.b false))] (s' := []) (by kernel_rfl) rfl ?_
    refine aw_cond false rfl (fun h => by cases h) (fun _ => ?_)
    refine aw_skip ?_
    refine aw_seq ?_
    refine aw_reg ?_
    refine at_run tt_ok 2 [(5, (.slc ((([] : List Int)).map AV.i) (([] : List Int)).length true)), (6, (.slc (p0.map AV.i) p0.length false))] rfl (by kernel_rfl) ?_
    obtain ⟨v51, hv51, h⟩ := bind_some' h
    refine at_one rfl rfl rfl (aop_appC1 (g := AV.i) (l := ([] : List Int)) (d := p0) (v := v51) (f := false) tt_ok hv51 rfl rfl rfl rfl rfl rfl rfl rfl rfl) ?_
    refine at_run tt_ok 4 [(2, (.slc (v51.map AV.i) v51.length false))] rfl (by kernel_rfl) ?_
    refine at_end rfl ?_
    refine aw_ret ?_
    obtain rfl := Option.some.inj h
    exact ⟨(.slc (v51.map AV.i) v51.length false), (.slc (v51.map AV.i) v51.length false), _, (res_tmps (by kernel_rfl)), (View.refl _), ⟨_, perm_sel _ [], List.take_sublist 0 _⟩, rfl, rfl⟩
def arena_Paths_1_S (K : Nat) : Prop := ∀ (o0 : Nat) (o1 : Nat) (o2 : Nat) (o3 : Nat) (p0 : Tr) (p1 : List Int) (p2 : Int) (p3 : List (List Int)) (r : Int × (List (List Int))), arena_Paths_1 K p0 p1 p2 p3 = some r → ACalls Try.prog 40 [(.tree p0), (.slc (p1.map AV.i) p1.length false), (.ref o0 0), (.ref o1 0), (.ref o3 0)] [(o0, .row 3 1 [(.i p2)] 0), (o1, .row 51 1 [(.row o2 p3.length)] 0), (o2, .row 45 1 (p3.map (fun l => AV.slc (l.map AV.i) l.length false)) 0), (o3, .row 66 1 [(.fn (.func 40) [] [(.ref o0 0), (.ref o1 0), (.ref o3 0)])] 0)] (fun av s => ∃ x0, av = (.tup []) ∧ s = [(o0, .row 3 1 [(.i r.1)] 0), (o1, .row 51 1 [(.row x0 r.2.length)] 0), (x0, .row 45 1 (r.2.map (fun l => AV.slc (l.map AV.i) l.length false)) 0), (o3, .row 66 1 [(.fn (.func 40) [] [(.ref o0 0), (.ref o1 0), (.ref o3 0)])] 0)])
theorem arena_Paths_1_step (K : Nat) (IH : ∀ j, j < K → arena_Paths_1_S j) : arena_Paths_1_S K := by
  intro o0 o1 o2 o3 p0 p1 p2 p3 r h
  cases K with
  | zero => cases h
  | succ k0 =>
  refine acalls_enter Try.func40 rfl rfl ?_
  refine aw_seq ?_
  refine aw_seq ?_
  refine aw_normal [(0, (.tree p0)), (1, (.slc (p1.map AV.i) p1.length false)), (2, (.ref o0 0)), (3, (.ref o1 0)), (4, (.ref o3 0))] (s' := [(o0, .row 3 1 [(.i p2)] 0), (o1, .row 51 1 [(.row o2 p3.length)] 0), (o2, .row 45 1 (p3.map (fun l => AV.slc (l.map AV.i) l.length false)) 0), (o3, .row 66 1 [(.fn (.func 40) [] [(.ref o0 0), (.ref o1 0), (.ref o3 0)])] 0)]) (by kernel_rfl) rfl ?_
  refine aw_reg ?_
  refine at_run tt_ok 1 [(0, (.tree p0)), (1, (.slc (p1.map AV.i) p1.length false)), (2, (.ref o0 0)), (3, (.ref o1 0)), (4, (.ref o3 0)), (9, (.tree p0))] rfl (by kernel_rfl) ?_
  cases p0 with
  | nil =>
    refine at_run tt_ok 2 [(0, (.tree (.nil))), (1, (.slc (p1.map AV.i) p1.length false)), (2, (.ref o0 0)), (3, (.ref o1 0)), (4, (.ref o3 0)), (10, (.b true))] rfl (by kernel_rfl) ?_
    refine at_end rfl ?_
    refine aw_cond true rfl (fun _ => ?_) (fun h => by cases h)
    refine aw_ret ?_
    obtain rfl := Option.some.inj h
    exact ⟨(.tup []), (.tup []), _, (res_tmps (by kernel_rfl)), (View.refl _), ⟨_, perm_sel _ [0, 0, 0, 0], List.take_sublist 4 _⟩, o2, rfl, rfl⟩
  | node n1 n2 n3 n4 n5 =>
    refine at_run tt_ok 2 [(0, (.tree ((.node n1 n2 n3 n4 n5)))), (1, (.slc (p1.map AV.i) p1.length false)), (2, (.ref o0 0)), (3, (.ref o1 0)), (4, (.ref o3 0)), (10, (.b false))] rfl (by kernel_rfl) ?_
    refine at_end rfl ?_
    refine aw_cond false rfl (fun h => by cases h) (fun _ => ?_)
    refine aw_skip ?_
    refine aw_seq ?_
    refine aw_seq ?_
    refine aw_draw mixed (by kernel_rfl) ?_
    refine j_light1 0 (o0, .row 3 1 [(.i p2)] 0) rfl (by kernel_rfl) rfl (by kernel_rfl) (fun s hq => (aop_loadM (av := (.i p2)) (off := 0) tt_ok hq rfl (by kernel_rfl) (by kernel_rfl))) (j := 0) rfl ?_
    refine j_run tt_ok [1, 2] [2, 1, 0] (by kernel_rfl) ?_
    by_cases hb6 : (decide (p2 < 0)) = true
    · have h := ite_t hb6 h
      refine j_setb 13 (by kernel_rfl) hb6 ?_
      refine j_run tt_ok [3, 4, 5, 6, 7, 8, 9] [9, 8, 7, 6, 5, 4, 3, 2, 1, 0] (by kernel_rfl) ?_
      refine .done (by kernel_rfl) ?_
      refine aw_normal [(0, (.tree ((.node n1 n2 n3 n4 n5)))), (1, (.slc (p1.map AV.i) p1.length false)), (3, (.ref o1 0)), (4, (.ref o3 0)), (20, (.b true))] (s' := [(o0, .row 3 1 [(.i p2)] 0), (o1, .row 51 1 [(.row o2 p3.length)] 0), (o2, .row 45 1 (p3.map (fun l => AV.slc (l.map AV.i) l.length false)) 0), (o3, .row 66 1 [(.fn (.func 40) [] [(.ref o0 0), (.ref o1 0), (.ref o3 0)])] 0)]) (by kernel_rfl) rfl ?_
      refine aw_cond true rfl (fun _ => ?_) (fun h => by cases h)
      refine aw_draw mixed (by kernel_rfl) ?_
      refine j_run tt_ok [1] [1] (by kernel_rfl) ?_
      refine j_light1 0 (o1, .row 51 1 [(.row o2 p3.length)] 0) rfl (by kernel_rfl) rfl (by kernel_rfl) (fun s hq => (aop_loadM (av := (.row o2 p3.length)) (off := 0) tt_ok hq rfl (by kernel_rfl) (by kernel_rfl))) (j := 1) rfl ?_
      obtain ⟨v9, hc10, h⟩ := bind_some' h
      refine .heavy 2 _ _ rfl (by kernel_rfl) rfl (by kernel_rfl) (aop_call (first := []) (caps := []) (xs := [(.slc (p1.map AV.i) p1.length false)]) (args' := [(.slc (p1.map AV.i) p1.length false)]) (sm := []) (r := [(o0, .row 3 1 [(.i p2)] 0), (o1, .row 51 1 [(.row o2 p3.length)] 0), (o2, .row 45 1 (p3.map (fun l => AV.slc (l.map AV.i) l.length false)) 0), (o3, .row 66 1 [(.fn (.func 40) [] [(.ref o0 0), (.ref o1 0), (.ref o3 0)])] 0)]) rfl (by kernel_rfl) Try.func41 rfl rfl (slices_Clone_ok k0 p1 _ hc10) (by kernel_rfl) (VW.refl _) (permTo [] (by kernel_rfl))) ?_ ?_
      · rintro _ _ ⟨_, ⟨rfl, rfl⟩, rfl⟩ l hl
        rcases List.mem_cons.1 hl with rfl | hl
        · exact .inr (fun p hp => by rw [List.mem_singleton.1 hp]; exact List.mem_of_getElem? (i := 1) rfl)
        · cases hl
      rintro _ _ ⟨_, ⟨rfl, rfl⟩, rfl⟩
      refine j_run tt_ok [3] [3, 2, 0, 1] (by kernel_rfl) ?_
      obtain ⟨v13, hv13, h⟩ := bind_some' h
      refine .heavy 4 _ _ rfl (by kernel_rfl) rfl (by kernel_rfl) (aop_app1 (g := (fun l => AV.slc (l.map AV.i) l.length false)) (l := p3) (d := ([v9] : List (List Int))) (v := v13) (f := true) (id := o2) (j := 2) tt_ok hv13 rfl rfl rfl rfl rfl rfl rfl (by kernel_rfl) (by kernel_rfl) rfl) ?_ ?_
      · rintro _ _ ⟨o14, rfl, rfl⟩ l hl
        rcases List.mem_cons.1 hl with rfl | hl
        · exact .inl (by kernel_rfl)
        · cases hl
      rintro _ _ ⟨o14, rfl, rfl⟩
      refine .heavy 5 _ _ rfl (by kernel_rfl) rfl (by kernel_rfl) (aop_storeRef (id := o1) (off := 0) (j := 2) (ds := [(.row o14 v13.length)]) tt_ok rfl (by kernel_rfl) rfl (by kernel_rfl) rfl) ?_ ?_
      · rintro _ _ ⟨rfl, rfl⟩ l hl
        rcases List.mem_cons.1 hl with rfl | hl
        · exact .inl (by kernel_rfl)
        · cases hl
      rintro _ _ ⟨rfl, rfl⟩
      refine .done (by kernel_rfl) ?_
      refine aw_seq ?_
      refine aw_normal [(0, (.tree ((.node n1 n2 n3 n4 n5)))), (1, (.slc (p1.map AV.i) p1.length false)), (4, (.ref o3 0))] (s' := [(o14, .row 45 1 (v13.map (fun l => AV.slc (l.map AV.i) l.length false)) 0), (o0, .row 3 1 [(.i p2)] 0), (o1, .row 51 1 [(.row o14 v13.length)] 0), (o3, .row 66 1 [(.fn (.func 40) [] [(.ref o0 0), (.ref o1 0), (.ref o3 0)])] 0)]) (by kernel_rfl) rfl ?_
      refine aw_reg ?_
      refine at_run tt_ok 6 [(1, (.slc (p1.map AV.i) p1.length false)), (4, (.ref o3 0)), (29, (.slc (n5.map AV.tree) n5.length false)), (30, (.i (((n5.length : Nat) : Int)))), (31, (.i 0))] rfl (by kernel_rfl) ?_
      refine at_end rfl ?_
      refine aw_block ?_
      refine aw_loop_ind' (X := Int × (List (List Int)) × Int × Nat) (fun k' x => k' ≤ k0 ∧ arena_Paths_1_l0 k' p1 n5 x.1 x.2.1 x.2.2.1 = some r) (fun x => [(1, (.slc (p1.map AV.i) p1.length false)), (4, (.ref o3 0)), (29, (.slc (n5.map AV.tree) n5.length false)), (30, (.i (((n5.length : Nat) : Int)))), (31, (.i x.1))]) (fun x => [(x.2.2.2, .row 45 1 (x.2.1.map (fun l => AV.slc (l.map AV.i) l.length false)) 0), (o0, .row 3 1 [(.i x.2.2.1)] 0), (o1, .row 51 1 [(.row x.2.2.2 x.2.1.length)] 0), (o3, .row 66 1 [(.fn (.func 40) [] [(.ref o0 0), (.ref o1 0), (.ref o3 0)])] 0)]) (fun x hx => by cases hx.2) ?_ k0 (0, v13, p2, o14) ⟨Nat.le_refl _, h⟩ (by kernel_rfl) rfl
      clear h
      rintro k20 ⟨w0_2, w0_3, w0_4, i0_1⟩ ⟨hlek20, h⟩
      refine aw_seq ?_
      refine aw_reg ?_
      refine at_run tt_ok 1 [(1, (.slc (p1.map AV.i) p1.length false)), (4, (.ref o3 0)), (29, (.slc (n5.map AV.tree) n5.length false)), (30, (.i (((n5.length : Nat) : Int)))), (31, (.i w0_2)), (32, (.b ((decide (w0_2 < (((n5.length : Nat) : Int)))))))] rfl (by kernel_rfl) ?_
      refine at_end rfl ?_
      refine aw_seq ?_
      refine aw_cond ((decide (w0_2 < (((n5.length : Nat) : Int))))) rfl (fun hb21 => ?_) (fun hb21 => ?_)
      · have h := ite_t hb21 h
        refine aw_skip ?_
        refine aw_seq ?_
        refine aw_block ?_
        refine aw_seq ?_
        refine aw_reg ?_
        refine at_run tt_ok 1 [(1, (.slc (p1.map AV.i) p1.length false)), (4, (.ref o3 0)), (29, (.slc (n5.map AV.tree) n5.length false)), (30, (.i (((n5.length : Nat) : Int)))), (31, (.i w0_2)), (33, (.i w0_2))] rfl (by kernel_rfl) ?_
        obtain ⟨v22, hv22, h⟩ := bind_some' h
        refine at_one rfl rfl rfl (aop_idx1 (k := .i64) (g := AV.tree) (l := n5) (fu := false) (j := w0_2) (v := v22) tt_ok rfl rfl rfl rfl rfl hv22) ?_
        refine at_run tt_ok 5 [(1, (.slc (p1.map AV.i) p1.length false)), (4, (.ref o3 0)), (7, (.i w0_2)), (8, (.tree v22)), (29, (.slc (n5.map AV.tree) n5.length false)), (30, (.i (((n5.length : Nat) : Int)))), (31, (.i w0_2))] rfl (by kernel_rfl) ?_
        refine at_end rfl ?_
        refine aw_draw mixed (by kernel_rfl) ?_
        refine j_run tt_ok [1, 2, 3, 4, 5, 6, 8, 9] [9, 8, 6, 5, 4, 3, 2, 1] (by kernel_rfl) ?_
        refine j_light1 0 (o3, .row 66 1 [(.fn (.func 40) [] [(.ref o0 0), (.ref o1 0), (.ref o3 0)])] 0) rfl (by kernel_rfl) rfl (by kernel_rfl) (fun s hq => (aop_loadM (av := (.fn (.func 40) [] [(.ref o0 0), (.ref o1 0), (.ref o3 0)])) (off := 0) tt_ok hq rfl (by kernel_rfl) (by kernel_rfl))) (j := 3) rfl ?_
        refine j_light0 7 rfl (by kernel_rfl) rfl (by kernel_rfl) (fun s => (aop_fullSlc (cs := (p1.map AV.i)) (n := p1.length) (fu := false) tt_ok rfl rfl rfl (by kernel_rfl) (by kernel_rfl) (by kernel_rfl))) ?_
        obtain ⟨v23, hv23, h⟩ := bind_some' h
        refine j_light0 10 rfl (by kernel_rfl) rfl (by kernel_rfl) (fun s => (aop_appC1 (g := AV.i) (l := p1) (d := ([w0_2] : List Int)) (v := v23) (f := true) tt_ok hv23 rfl rfl rfl rfl rfl rfl rfl (by kernel_rfl) (by kernel_rfl))) ?_
        obtain ⟨⟨v28, v29⟩, hc30, h⟩ := bind_some' h
        refine .heavy 11 _ _ rfl (by kernel_rfl) rfl (by kernel_rfl) (aop_call (first := []) (caps := [(.ref o0 0), (.ref o1 0), (.ref o3 0)]) (xs := [(.tree v22), (.slc (v23.map AV.i) v23.length false), (.ref o0 0), (.ref o1 0), (.ref o3 0)]) (args' := [(.tree v22), (.slc (v23.map AV.i) v23.length false), (.ref o0 0), (.ref o1 0), (.ref o3 0)]) (sm := [(o0, .row 3 1 [(.i w0_4)] 0), (o1, .row 51 1 [(.row i0_1 w0_3.length)] 0), (i0_1, .row 45 1 (w0_3.map (fun l => AV.slc (l.map AV.i) l.length false)) 0), (o3, .row 66 1 [(.fn (.func 40) [] [(.ref o0 0), (.ref o1 0), (.ref o3 0)])] 0)]) (r := []) rfl (by kernel_rfl) Try.func40 rfl rfl ((IH k20 (by omega)) o0 o1 i0_1 o3 v22 v23 w0_4 w0_3 _ hc30) (by kernel_rfl) (VW.refl _) (permTo [1, 1, 0, 0] (by kernel_rfl))) ?_ ?_
        · rintro _ _ ⟨_, ⟨o31, rfl, rfl⟩, rfl⟩ l hl
          rcases List.mem_cons.1 hl with rfl | hl
          · exact .inl (by kernel_rfl)
          · cases hl
        rintro _ _ ⟨_, ⟨o31, rfl, rfl⟩, rfl⟩
        refine .done (by kernel_rfl) ?_
        refine aw_normal [(1, (.slc (p1.map AV.i) p1.length false)), (4, (.ref o3 0)), (29, (.slc (n5.map AV.tree) n5.length false)), (30, (.i (((n5.length : Nat) : Int)))), (31, (.i w0_2))] (s' := [(o0, .row 3 1 [(.i v28)] 0), (o1, .row 51 1 [(.row o31 v29.length)] 0), (o31, .row 45 1 (v29.map (fun l => AV.slc (l.map AV.i) l.length false)) 0), (o3, .row 66 1 [(.fn (.func 40) [] [(.ref o0 0), (.ref o1 0), (.ref o3 0)])] 0)]) (by kernel_rfl) rfl ?_
        refine aw_reg ?_
        refine at_run tt_ok 2 [(1, (.slc (p1.map AV.i) p1.length false)), (4, (.ref o3 0)), (29, (.slc (n5.map AV.tree) n5.length false)), (30, (.i (((n5.length : Nat) : Int)))), (31, (.i ((IntKind.i64.wrap (w0_2 + 1)))))] rfl (by kernel_rfl) ?_
        refine at_end rfl ?_
        exact ⟨k20, ((IntKind.i64.wrap (w0_2 + 1)), v29, v28, o31), [2, 0, 0, 0], [], by omega, ⟨by omega, h⟩, by kernel_rfl, rfl⟩
      · have h := ite_f (by rw [hb21]; simp) h
        refine aw_exit ?_
        obtain rfl := Option.some.inj h
        exact ⟨(.tup []), (.tup []), _, (res_tmps (by kernel_rfl)), (View.refl _), ⟨_, perm_sel _ [1, 1, 0, 0], List.take_sublist 4 _⟩, i0_1, rfl, rfl⟩
    · have h := ite_f hb6 h
      refine j_setb 13 (by kernel_rfl) (nott hb6) ?_
      refine j_run tt_ok [3, 4, 5, 6] [6, 5, 4, 3, 2, 1, 0] (by kernel_rfl) ?_
      refine j_light1 7 (o0, .row 3 1 [(.i p2)] 0) rfl (by kernel_rfl) rfl (by kernel_rfl) (fun s hq => (aop_loadM (av := (.i p2)) (off := 0) tt_ok hq rfl (by kernel_rfl) (by kernel_rfl))) (j := 0) rfl ?_
      refine j_run tt_ok [8, 9] [9, 8, 7, 6, 5, 4, 3, 2, 1, 0] (by kernel_rfl) ?_
      refine .done (by kernel_rfl) ?_
      refine aw_normal [(0, (.tree ((.node n1 n2 n3 n4 n5)))), (1, (.slc (p1.map AV.i) p1.length false)), (3, (.ref o1 0)), (4, (.ref o3 0)), (20, (.b ((decide (n1 = p2)))))] (s' := [(o0, .row 3 1 [(.i p2)] 0), (o1, .row 51 1 [(.row o2 p3.length)] 0), (o2, .row 45 1 (p3.map (fun l => AV.slc (l.map AV.i) l.length false)) 0), (o3, .row 66 1 [(.fn (.func 40) [] [(.ref o0 0), (.ref o1 0), (.ref o3 0)])] 0)]) (by kernel_rfl) rfl ?_
      refine aw_cond ((decide (n1 = p2))) rfl (fun hb32 => ?_) (fun hb32 => ?_)
      · have h := ite_t hb32 h
        refine aw_draw mixed (by kernel_rfl) ?_
        refine j_run tt_ok [1] [1] (by kernel_rfl) ?_
        refine j_light1 0 (o1, .row 51 1 [(.row o2 p3.length)] 0) rfl (by kernel_rfl) rfl (by kernel_rfl) (fun s hq => (aop_loadM (av := (.row o2 p3.length)) (off := 0) tt_ok hq rfl (by kernel_rfl) (by kernel_rfl))) (j := 1) rfl ?_
        obtain ⟨v35, hc36, h⟩ := bind_some' h
        refine .heavy 2 _ _ rfl (by kernel_rfl) rfl (by kernel_rfl) (aop_call (first := []) (caps := []) (xs := [(.slc (p1.map AV.i) p1.length false)]) (args' := [(.slc (p1.map AV.i) p1.length false)]) (sm := []) (r := [(o0, .row 3 1 [(.i p2)] 0), (o1, .row 51 1 [(.row o2 p3.length)] 0), (o2, .row 45 1 (p3.map (fun l => AV.slc (l.map AV.i) l.length false)) 0), (o3, .row 66 1 [(.fn (.func 40) [] [(.ref o0 0), (.ref o1 0), (.ref o3 0)])] 0)]) rfl (by kernel_rfl) Try.func41 rfl rfl (slices_Clone_ok k0 p1 _ hc36) (by kernel_rfl) (VW.refl _) (permTo [] (by kernel_rfl))) ?_ ?_
        · rintro _ _ ⟨_, ⟨rfl, rfl⟩, rfl⟩ l hl
          rcases List.mem_cons.1 hl with rfl | hl
          · exact .inr (fun p hp => by rw [List.mem_singleton.1 hp]; exact List.mem_of_getElem? (i := 1) rfl)
          · cases hl
        rintro _ _ ⟨_, ⟨rfl, rfl⟩, rfl⟩
        refine j_run tt_ok [3] [3, 2, 0, 1] (by kernel_rfl) ?_
        obtain ⟨v39, hv39, h⟩ := bind_some' h
        refine .heavy 4 _ _ rfl (by kernel_rfl) rfl (by kernel_rfl) (aop_app1 (g := (fun l => AV.slc (l.map AV.i) l.length false)) (l := p3) (d := ([v35] : List (List Int))) (v := v39) (f := true) (id := o2) (j := 2) tt_ok hv39 rfl rfl rfl rfl rfl rfl rfl (by kernel_rfl) (by kernel_rfl) rfl) ?_ ?_
        · rintro _ _ ⟨o40, rfl, rfl⟩ l hl
          rcases List.mem_cons.1 hl with rfl | hl
          · exact .inl (by kernel_rfl)
          · cases hl
        rintro _ _ ⟨o40, rfl, rfl⟩
        refine .heavy 5 _ _ rfl (by kernel_rfl) rfl (by kernel_rfl) (aop_storeRef (id := o1) (off := 0) (j := 2) (ds := [(.row o40 v39.length)]) tt_ok rfl (by kernel_rfl) rfl (by kernel_rfl) rfl) ?_ ?_
        · rintro _ _ ⟨rfl, rfl⟩ l hl
          rcases List.mem_cons.1 hl with rfl | hl
          · exact .inl (by kernel_rfl)
          · cases hl
        rintro _ _ ⟨rfl, rfl⟩
        refine .done (by kernel_rfl) ?_
        refine aw_seq ?_
        refine aw_normal [(0, (.tree ((.node n1 n2 n3 n4 n5)))), (1, (.slc (p1.map AV.i) p1.length false)), (4, (.ref o3 0))] (s' := [(o40, .row 45 1 (v39.map (fun l => AV.slc (l.map AV.i) l.length false)) 0), (o0, .row 3 1 [(.i p2)] 0), (o1, .row 51 1 [(.row o40 v39.length)] 0), (o3, .row 66 1 [(.fn (.func 40) [] [(.ref o0 0), (.ref o1 0), (.ref o3 0)])] 0)]) (by kernel_rfl) rfl ?_
        refine aw_reg ?_
        refine at_run tt_ok 6 [(1, (.slc (p1.map AV.i) p1.length false)), (4, (.ref o3 0)), (29, (.slc (n5.map AV.tree) n5.length false)), (30, (.i (((n5.length : Nat) : Int)))), (31, (.i 0))] rfl (by kernel_rfl) ?_
        refine at_end rfl ?_
        refine aw_block ?_
        refine aw_loop_ind' (X := Int × (List (List Int)) × Int × Nat) (fun k' x => k' ≤ k0 ∧ arena_Paths_1_l1 k' p1 n5 x.1 x.2.1 x.2.2.1 = some r) (fun x => [(1, (.slc (p1.map AV.i) p1.length false)), (4, (.ref o3 0)), (29, (.slc (n5.map AV.tree) n5.length false)), (30, (.i (((n5.length : Nat) : Int)))), (31, (.i x.1))]) (fun x => [(x.2.2.2, .row 45 1 (x.2.1.map (fun l => AV.slc (l.map AV.i) l.length false)) 0), (o0, .row 3 1 [(.i x.2.2.1)] 0), (o1, .row 51 1 [(.row x.2.2.2 x.2.1.length)] 0), (o3, .row 66 1 [(.fn (.func 40) [] [(.ref o0 0), (.ref o1 0), (.ref o3 0)])] 0)]) (fun x hx => by cases hx.2) ?_ k0 (0, v39, p2, o40) ⟨Nat.le_refl _, h⟩ (by kernel_rfl) rfl
        clear h
        rintro k46 ⟨w1_2, w1_3, w1_4, i1_1⟩ ⟨hlek46, h⟩
        refine aw_seq ?_
        refine aw_reg ?_
        refine at_run tt_ok 1 [(1, (.slc (p1.map AV.i) p1.length false)), (4, (.ref o3 0)), (29, (.slc (n5.map AV.tree) n5.length false)), (30, (.i (((n5.length : Nat) : Int)))), (31, (.i w1_2)), (32, (.b ((decide (w1_2 < (((n5.length : Nat) : Int)))))))] rfl (by kernel_rfl) ?_
        refine at_end rfl ?_
        refine aw_seq ?_
        refine aw_cond ((decide (w1_2 < (((n5.length : Nat) : Int))))) rfl (fun hb47 => ?_) (fun hb47 => ?_)
        · have h := ite_t hb47 h
          refine aw_skip ?_
          refine aw_seq ?_
          refine aw_block ?_
          refine aw_seq ?_
          refine aw_reg ?_
          refine at_run tt_ok 1 [(1, (.slc (p1.map AV.i) p1.length false)), (4, (.ref o3 0)), (29, (.slc (n5.map AV.tree) n5.length false)), (30, (.i (((n5.length : Nat) : Int)))), (31, (.i w1_2)), (33, (.i w1_2))] rfl (by kernel_rfl) ?_
          obtain ⟨v48, hv48, h⟩ := bind_some' h
          refine at_one rfl rfl rfl (aop_idx1 (k := .i64) (g := AV.tree) (l := n5) (fu := false) (j := w1_2) (v := v48) tt_ok rfl rfl rfl rfl rfl hv48) ?_
          refine at_run tt_ok 5 [(1, (.slc (p1.map AV.i) p1.length false)), (4, (.ref o3 0)), (7, (.i w1_2)), (8, (.tree v48)), (29, (.slc (n5.map AV.tree) n5.length false)), (30, (.i (((n5.length : Nat) : Int)))), (31, (.i w1_2))] rfl (by kernel_rfl) ?_
          refine at_end rfl ?_
          refine aw_draw mixed (by kernel_rfl) ?_
          refine j_run tt_ok [1, 2, 3, 4, 5, 6, 8, 9] [9, 8, 6, 5, 4, 3, 2, 1] (by kernel_rfl) ?_
          refine j_light1 0 (o3, .row 66 1 [(.fn (.func 40) [] [(.ref o0 0), (.ref o1 0), (.ref o3 0)])] 0) rfl (by kernel_rfl) rfl (by kernel_rfl) (fun s hq => (aop_loadM (av := (.fn (.func 40) [] [(.ref o0 0), (.ref o1 0), (.ref o3 0)])) (off := 0) tt_ok hq rfl (by kernel_rfl) (by kernel_rfl))) (j := 3) rfl ?_
          refine j_light0 7 rfl (by kernel_rfl) rfl (by kernel_rfl) (fun s => (aop_fullSlc (cs := (p1.map AV.i)) (n := p1.length) (fu := false) tt_ok rfl rfl rfl (by kernel_rfl) (by kernel_rfl) (by kernel_rfl))) ?_
          obtain ⟨v49, hv49, h⟩ := bind_some' h
          refine j_light0 10 rfl (by kernel_rfl) rfl (by kernel_rfl) (fun s => (aop_appC1 (g := AV.i) (l := p1) (d := ([w1_2] : List Int)) (v := v49) (f := true) tt_ok hv49 rfl rfl rfl rfl rfl rfl rfl (by kernel_rfl) (by kernel_rfl))) ?_
          obtain ⟨⟨v54, v55⟩, hc56, h⟩ := bind_some' h
          refine .heavy 11 _ _ rfl (by kernel_rfl) rfl (by kernel_rfl) (aop_call (first := []) (caps := [(.ref o0 0), (.ref o1 0), (.ref o3 0)]) (xs := [(.tree v48), (.slc (v49.map AV.i) v49.length false), (.ref o0 0), (.ref o1 0), (.ref o3 0)]) (args' := [(.tree v48), (.slc (v49.map AV.i) v49.length false), (.ref o0 0), (.ref o1 0), (.ref o3 0)]) (sm := [(o0, .row 3 1 [(.i w1_4)] 0), (o1, .row 51 1 [(.row i1_1 w1_3.length)] 0), (i1_1, .row 45 1 (w1_3.map (fun l => AV.slc (l.map AV.i) l.length false)) 0), (o3, .row 66 1 [(.fn (.func 40) [] [(.ref o0 0), (.ref o1 0), (.ref o3 0)])] 0)]) (r := []) rfl (by kernel_rfl) Try.func40 rfl rfl ((IH k46 (by omega)) o0 o1 i1_1 o3 v48 v49 w1_4 w1_3 _ hc56) (by kernel_rfl) (VW.refl _) (permTo [1, 1, 0, 0] (by kernel_rfl))) ?_ ?_
          · rintro _ _ ⟨_, ⟨o57, rfl, rfl⟩, rfl⟩ l hl
            rcases List.mem_cons.1 hl with rfl | hl
            · exact .inl (by kernel_rfl)
            · cases hl
          rintro _ _ ⟨_, ⟨o57, rfl, rfl⟩, rfl⟩
          refine .done (by kernel_rfl) ?_
          refine aw_normal [(1, (.slc (p1.map AV.i) p1.length false)), (4, (.ref o3 0)), (29, (.slc (n5.map AV.tree) n5.length false)), (30, (.i (((n5.length : Nat) : Int)))), (31, (.i w1_2))] (s' := [(o0, .row 3 1 [(.i v54)] 0), (o1, .row 51 1 [(.row o57 v55.length)] 0), (o57, .row 45 1 (v55.map (fun l => AV.slc (l.map AV.i) l.length false)) 0), (o3, .row 66 1 [(.fn (.func 40) [] [(.ref o0 0), (.ref o1 0), (.ref o3 0)])] 0)]) (by kernel_rfl) rfl ?_
          refine aw_reg ?_
          refine at_run tt_ok 2 [(1, (.slc (p1.map AV.i) p1.length false)), (4, (.ref o3 0)), (29, (.slc (n5.map AV.tree) n5.length false)), (30, (.i (((n5.length : Nat) : Int)))), (31, (.i ((IntKind.i64.wrap (w1_2 + 1)))))] rfl (by kernel_rfl) ?_
          refine at_end rfl ?_
          exact ⟨k46, ((IntKind.i64.wrap (w1_2 + 1)), v55, v54, o57), [2, 0, 0, 0], [], by omega, ⟨by omega, h⟩, by kernel_rfl, rfl⟩
        · have h := ite_f (by rw [hb47]; simp) h
          refine aw_exit ?_
          obtain rfl := Option.some.inj h
          exact ⟨(.tup []), (.tup []), _, (res_tmps (by kernel_rfl)), (View.refl _), ⟨_, perm_sel _ [1, 1, 0, 0], List.take_sublist 4 _⟩, i1_1, rfl, rfl⟩
      · have h := ite_f (by rw [hb32]; simp) h
        refine aw_skip ?_
        refine aw_seq ?_
        refine aw_reg ?_
        refine at_run tt_ok 6 [(1, (.slc (p1.map AV.i) p1.length false)), (4, (.ref o3 0)), (29, (.slc (n5.map AV.tree) n5.length false)), (30, (.i (((n5.length : Nat) : Int)))), (31, (.i 0))] rfl (by kernel_rfl) ?_
        refine at_end rfl ?_
        refine aw_block ?_
        refine aw_loop_ind' (X := Int × Int × (List (List Int)) × Nat) (fun k' x => k' ≤ k0 ∧ arena_Paths_1_l2 k' p1 n5 x.1 x.2.1 x.2.2.1 = some r) (fun x => [(1, (.slc (p1.map AV.i) p1.length false)), (4, (.ref o3 0)), (29, (.slc (n5.map AV.tree) n5.length false)), (30, (.i (((n5.length : Nat) : Int)))), (31, (.i x.1))]) (fun x => [(o0, .row 3 1 [(.i x.2.1)] 0), (o1, .row 51 1 [(.row x.2.2.2 x.2.2.1.length)] 0), (x.2.2.2, .row 45 1 (x.2.2.1.map (fun l => AV.slc (l.map AV.i) l.length false)) 0), (o3, .row 66 1 [(.fn (.func 40) [] [(.ref o0 0), (.ref o1 0), (.ref o3 0)])] 0)]) (fun x hx => by cases hx.2) ?_ k0 (0, p2, p3, o2) ⟨Nat.le_refl _, h⟩ (by kernel_rfl) rfl
        clear h
        rintro k63 ⟨w2_2, w2_3, w2_4, i2_1⟩ ⟨hlek63, h⟩
        refine aw_seq ?_
        refine aw_reg ?_
        refine at_run tt_ok 1 [(1, (.slc (p1.map AV.i) p1.length false)), (4, (.ref o3 0)), (29, (.slc (n5.map AV.tree) n5.length false)), (30, (.i (((n5.length : Nat) : Int)))), (31, (.i w2_2)), (32, (.b ((decide (w2_2 < (((n5.length : Nat) : Int)))))))] rfl (by kernel_rfl) ?_
        refine at_end rfl ?_
        refine aw_seq ?_
        refine aw_cond ((decide (w2_2 < (((n5.length : Nat) : Int))))) rfl (fun hb64 => ?_) (fun hb64 => ?_)
        · have h := ite_t hb64 h
          refine aw_skip ?_
          refine aw_seq ?_
          refine aw_block ?_
          refine aw_seq ?_
          refine aw_reg ?_
          refine at_run tt_ok 1 [(1, (.slc (p1.map AV.i) p1.length false)), (4, (.ref o3 0)), (29, (.slc (n5.map AV.tree) n5.length false)), (30, (.i (((n5.length : Nat) : Int)))), (31, (.i w2_2)), (33, (.i w2_2))] rfl (by kernel_rfl) ?_
          obtain ⟨v65, hv65, h⟩ := bind_some' h
          refine at_one rfl rfl rfl (aop_idx1 (k := .i64) (g := AV.tree) (l := n5) (fu := false) (j := w2_2) (v := v65) tt_ok rfl rfl rfl rfl rfl hv65) ?_
          refine at_run tt_ok 5 [(1, (.slc (p1.map AV.i) p1.length false)), (4, (.ref o3 0)), (7, (.i w2_2)), (8, (.tree v65)), (29, (.slc (n5.map AV.tree) n5.length false)), (30, (.i (((n5.length : Nat) : Int)))), (31, (.i w2_2))] rfl (by kernel_rfl) ?_
          refine at_end rfl ?_
          refine aw_draw mixed (by kernel_rfl) ?_
          refine j_run tt_ok [1, 2, 3, 4, 5, 6, 8, 9] [9, 8, 6, 5, 4, 3, 2, 1] (by kernel_rfl) ?_
          refine j_light1 0 (o3, .row 66 1 [(.fn (.func 40) [] [(.ref o0 0), (.ref o1 0), (.ref o3 0)])] 0) rfl (by kernel_rfl) rfl (by kernel_rfl) (fun s hq => (aop_loadM (av := (.fn (.func 40) [] [(.ref o0 0), (.ref o1 0), (.ref o3 0)])) (off := 0) tt_ok hq rfl (by kernel_rfl) (by kernel_rfl))) (j := 3) rfl ?_
          refine j_light0 7 rfl (by kernel_rfl) rfl (by kernel_rfl) (fun s => (aop_fullSlc (cs := (p1.map AV.i)) (n := p1.length) (fu := false) tt_ok rfl rfl rfl (by kernel_rfl) (by kernel_rfl) (by kernel_rfl))) ?_
          obtain ⟨v66, hv66, h⟩ := bind_some' h
          refine j_light0 10 rfl (by kernel_rfl) rfl (by kernel_rfl) (fun s => (aop_appC1 (g := AV.i) (l := p1) (d := ([w2_2] : List Int)) (v := v66) (f := true) tt_ok hv66 rfl rfl rfl rfl rfl rfl rfl (by kernel_rfl) (by kernel_rfl))) ?_
          obtain ⟨⟨v71, v72⟩, hc73, h⟩ := bind_some' h
          refine .heavy 11 _ _ rfl (by kernel_rfl) rfl (by kernel_rfl) (aop_call (first := []) (caps := [(.ref o0 0), (.ref o1 0), (.ref o3 0)]) (xs := [(.tree v65), (.slc (v66.map AV.i) v66.length false), (.ref o0 0), (.ref o1 0), (.ref o3 0)]) (args' := [(.tree v65), (.slc (v66.map AV.i) v66.length false), (.ref o0 0), (.ref o1 0), (.ref o3 0)]) (sm := [(o0, .row 3 1 [(.i w2_3)] 0), (o1, .row 51 1 [(.row i2_1 w2_4.length)] 0), (i2_1, .row 45 1 (w2_4.map (fun l => AV.slc (l.map AV.i) l.length false)) 0), (o3, .row 66 1 [(.fn (.func 40) [] [(.ref o0 0), (.ref o1 0), (.ref o3 0)])] 0)]) (r := []) rfl (by kernel_rfl) Try.func40 rfl rfl ((IH k63 (by omega)) o0 o1 i2_1 o3 v65 v66 w2_3 w2_4 _ hc73) (by kernel_rfl) (VW.refl _) (permTo [0, 0, 0, 0] (by kernel_rfl))) ?_ ?_
          · rintro _ _ ⟨_, ⟨o74, rfl, rfl⟩, rfl⟩ l hl
            rcases List.mem_cons.1 hl with rfl | hl
            · exact .inl (by kernel_rfl)
            · cases hl
          rintro _ _ ⟨_, ⟨o74, rfl, rfl⟩, rfl⟩
          refine .done (by kernel_rfl) ?_
          refine aw_normal [(1, (.slc (p1.map AV.i) p1.length false)), (4, (.ref o3 0)), (29, (.slc (n5.map AV.tree) n5.length false)), (30, (.i (((n5.length : Nat) : Int)))), (31, (.i w2_2))] (s' := [(o0, .row 3 1 [(.i v71)] 0), (o1, .row 51 1 [(.row o74 v72.length)] 0), (o74, .row 45 1 (v72.map (fun l => AV.slc (l.map AV.i) l.length false)) 0), (o3, .row 66 1 [(.fn (.func 40) [] [(.ref o0 0), (.ref o1 0), (.ref o3 0)])] 0)]) (by kernel_rfl) rfl ?_
          refine aw_reg ?_
          refine at_run tt_ok 2 [(1, (.slc (p1.map AV.i) p1.length false)), (4, (.ref o3 0)), (29, (.slc (n5.map AV.tree) n5.length false)), (30, (.i (((n5.length : Nat) : Int)))), (31, (.i ((IntKind.i64.wrap (w2_2 + 1)))))] rfl (by kernel_rfl) ?_
          refine at_end rfl ?_
          exact ⟨k63, ((IntKind.i64.wrap (w2_2 + 1)), v71, v72, o74), [0, 0, 0, 0], [], by omega, ⟨by omega, h⟩, by kernel_rfl, rfl⟩
        · have h := ite_f (by rw [hb64]; simp) h
          refine aw_exit ?_
          obtain rfl := Option.some.inj h
          exact ⟨(.tup []), (.tup []), _, (res_tmps (by kernel_rfl)), (View.refl _), ⟨_, perm_sel _ [0, 0, 0, 0], List.take_sublist 4 _⟩, i2_1, rfl, rfl⟩
theorem arena_Paths_1_all (K : Nat) : arena_Paths_1_S K := by
  induction K using Nat.strongRecOn with
  | _ K IH => exact arena_Paths_1_step K IH
theorem arena_Paths_1_ok (K : Nat) : ∀ (o0 : Nat) (o1 : Nat) (o2 : Nat) (o3 : Nat) (p0 : Tr) (p1 : List Int) (p2 : Int) (p3 : List (List Int)) (r : Int × (List (List Int))), arena_Paths_1 K p0 p1 p2 p3 = some r → ACalls Try.prog 40 [(.tree p0), (.slc (p1.map AV.i) p1.length false), (.ref o0 0), (.ref o1 0), (.ref o3 0)] [(o0, .row 3 1 [(.i p2)] 0), (o1, .row 51 1 [(.row o2 p3.length)] 0), (o2, .row 45 1 (p3.map (fun l => AV.slc (l.map AV.i) l.length false)) 0), (o3, .row 66 1 [(.fn (.func 40) [] [(.ref o0 0), (.ref o1 0), (.ref o3 0)])] 0)] (fun av s => ∃ x0, av = (.tup []) ∧ s = [(o0, .row 3 1 [(.i r.1)] 0), (o1, .row 51 1 [(.row x0 r.2.length)] 0), (x0, .row 45 1 (r.2.map (fun l => AV.slc (l.map AV.i) l.length false)) 0), (o3, .row 66 1 [(.fn (.func 40) [] [(.ref o0 0), (.ref o1 0), (.ref o3 0)])] 0)]) := (arena_Paths_1_all K)
theorem arena_Paths_ok (K : Nat) : ∀ (p0 : Tr) (p1 : Int) (r : (List (List Int))), arena_Paths K p0 p1 = some r → ACalls Try.prog 28 [(.tree p0), (.i p1)] [] (fun av s => av = (.slc (r.map (fun l => AV.slc (l.map AV.i) l.length false)) r.length false) ∧ s = []) := by
  intro p0 p1 r h
  refine acalls_enter Try.func28 rfl rfl ?_
  refine aw_seq ?_
  refine aw_normal [(0, (.tree p0)), (1, (.i p1))] (s' := []) (by kernel_rfl) rfl ?_
  refine aw_reg ?_
  refine at_op rfl rfl rfl (aop_box (cs := [(.i p1)]) rfl rfl) ?_
  rintro _ _ ⟨o1, rfl, rfl⟩
  refine at_run tt_ok 2 [(0, (.tree p0)), (3, (.ref o1 0))] rfl (by kernel_rfl) ?_
  refine at_end rfl ?_
  refine aw_seq ?_
  refine aw_reg ?_
  refine at_op rfl rfl rfl (aop_alloc (zs := [(.slice none 0 0)]) tt_ok rfl rfl rfl) ?_
  rintro _ _ ⟨o2, rfl, rfl⟩
  refine at_end rfl ?_
  refine aw_seq ?_
  refine aw_normal [(0, (.tree p0)), (3, (.ref o1 0)), (5, (.ref o2 0))] (s' := [(o2, .row 51 1 [(.lit (.slice none 0 0))] 0), (o1, .row 3 1 [(.i p1)] 0)]) (by kernel_rfl) rfl ?_
  refine aw_reg ?_
  refine at_op rfl rfl rfl (aop_alloc (zs := [.nilFunc]) tt_ok rfl rfl rfl) ?_
  rintro _ _ ⟨o3, rfl, rfl⟩
  refine at_end rfl ?_
  refine aw_seq ?_
  refine aw_normal [(0, (.tree p0)), (3, (.ref o1 0)), (5, (.ref o2 0)), (6, (.ref o3 0))] (s' := [(o3, .row 66 1 [(.lit .nilFunc)] 0), (o2, .row 51 1 [(.lit (.slice none 0 0))] 0), (o1, .row 3 1 [(.i p1)] 0)]) (by kernel_rfl) rfl ?_
  refine aw_reg ?_
  refine at_run tt_ok 1 [(0, (.tree p0)), (5, (.ref o2 0)), (6, (.ref o3 0)), (7, (.fn (.func 40) [] [(.ref o1 0), (.ref o2 0), (.ref o3 0)]))] rfl (by kernel_rfl) ?_
  refine at_one rfl rfl rfl (aop_storeRef (id := o3) (off := 0) (j := 0) (ds := [(.fn (.func 40) [] [(.ref o1 0), (.ref o2 0), (.ref o3 0)])]) tt_ok rfl rfl rfl rfl rfl) ?_
  refine at_end rfl ?_
  refine aw_seq ?_
  refine aw_normal [(0, (.tree p0)), (5, (.ref o2 0)), (6, (.ref o3 0))] (s' := [(o3, .row 66 1 [(.fn (.func 40) [] [(.ref o1 0), (.ref o2 0), (.ref o3 0)])] 0), (o2, .row 51 1 [(.lit (.slice none 0 0))] 0), (o1, .row 3 1 [(.i p1)] 0)]) (by kernel_rfl) rfl ?_
  refine aw_adoptCell (j := 1) 0 45 1 rfl rfl (fun o4 => ?_)
  refine aw_normal [(0, (.tree p0)), (5, (.ref o2 0)), (6, (.ref o3 0))] (s' := [(o4, .row 45 1 ((([] : List (List Int))).map (fun l => AV.slc (l.map AV.i) l.length false)) 0), (o3, .row 66 1 [(.fn (.func 40) [] [(.ref o1 0), (.ref o2 0), (.ref o3 0)])] 0), (o2, .row 51 1 [(.row o4 (([] : List (List Int))).length)] 0), (o1, .row 3 1 [(.i p1)] 0)]) (by kernel_rfl) rfl ?_
  refine aw_reg ?_
  refine at_one rfl rfl rfl (aop_loadRef (j := 1) (off := 0) (av := (.fn (.func 40) [] [(.ref o1 0), (.ref o2 0), (.ref o3 0)])) tt_ok rfl rfl rfl rfl) ?_
  refine at_run tt_ok 2 [(5, (.ref o2 0)), (8, (.fn (.func 40) [] [(.ref o1 0), (.ref o2 0), (.ref o3 0)])), (9, (.tree p0))] rfl (by kernel_rfl) ?_
  obtain ⟨⟨v54, v55⟩, hc56, h⟩ := bind_some' h
  refine at_op rfl rfl rfl (aop_call (first := []) (caps := [(.ref o1 0), (.ref o2 0), (.ref o3 0)]) (xs := [(.tree p0), (.lit (.slice none 0 0)), (.ref o1 0), (.ref o2 0), (.ref o3 0)]) (args' := [(.tree p0), (.slc ((([] : List Int)).map AV.i) (([] : List Int)).length false), (.ref o1 0), (.ref o2 0), (.ref o3 0)]) (sm := [(o1, .row 3 1 [(.i p1)] 0), (o2, .row 51 1 [(.row o4 (([] : List (List Int))).length)] 0), (o4, .row 45 1 ((([] : List (List Int))).map (fun l => AV.slc (l.map AV.i) l.length false)) 0), (o3, .row 66 1 [(.fn (.func 40) [] [(.ref o1 0), (.ref o2 0), (.ref o3 0)])] 0)]) (r := []) rfl (by kernel_rfl) Try.func40 rfl rfl (arena_Paths_1_ok K o1 o2 o4 o3 p0 (([] : List Int)) p1 (([] : List (List Int))) _ hc56) (by kernel_rfl) (VW.same (VW.cons (View.of_weak (Weak.nil_slc false)) (VW.same (VW.same (VW.same VW.nil))))) (permTo [3, 2, 0, 0] (by kernel_rfl))) ?_
  rintro _ _ ⟨_, ⟨o57, rfl, rfl⟩, rfl⟩
  refine at_end rfl ?_
  refine aw_seq ?_
  refine aw_normal [(5, (.ref o2 0))] (s' := [(o1, .row 3 1 [(.i v54)] 0), (o2, .row 51 1 [(.row o57 v55.length)] 0), (o57, .row 45 1 (v55.map (fun l => AV.slc (l.map AV.i) l.length false)) 0), (o3, .row 66 1 [(.fn (.func 40) [] [(.ref o1 0), (.ref o2 0), (.ref o3 0)])] 0)]) (by kernel_rfl) rfl ?_
  refine aw_reg ?_
  refine at_one rfl rfl rfl (aop_loadRef (j := 1) (off := 0) (av := (.row o57 v55.length)) tt_ok rfl rfl rfl rfl) ?_
  refine at_run tt_ok 2 [(4, (.row o57 v55.length))] rfl (by kernel_rfl) ?_
  refine at_end rfl ?_
  refine aw_shift (Shift.frz (j := 2) rfl) ?_
  refine aw_shift (Shift.view 4 rfl (View.row (j := 2) rfl (fun h => by rw [List.eq_nil_of_length_eq_zero h]; rfl))) ?_
  refine aw_shift (Shift.cell (j := 1) 0 rfl rfl (View.row (j := 2) rfl (fun h => by rw [List.eq_nil_of_length_eq_zero h]; rfl))) ?_
  refine aw_ret ?_
  obtain rfl := Option.some.inj h
  exact ⟨(.slc (v55.map (fun l => AV.slc (l.map AV.i) l.length false)) v55.length false), (.slc (v55.map (fun l => AV.slc (l.map AV.i) l.length false)) v55.length false), _, (res_tmps (by kernel_rfl)), (View.refl _), ⟨_, perm_sel _ [], List.take_sublist 0 _⟩, rfl, rfl⟩
theorem slices_Clone_row_ok (K : Nat) : ∀ (p0 : List Tr) (r : (List Tr)), slices_Clone_row K p0 = some r → ACalls Try.prog 45 [(.slc (p0.map AV.tree) p0.length false)] [] (fun av s => ∃ x0, av = (.row x0 r.length) ∧ s = [(x0, .row 25 1 (r.map AV.tree) 0)]) := by
  intro p0 r h
  refine acalls_enter Try.func45 rfl rfl ?_
  refine aw_seq ?_
  refine aw_normal [(0, (.slc (p0.map AV.tree) p0.length false))] (s' := []) (by kernel_rfl) rfl ?_
  refine aw_reg ?_
  refine at_run tt_ok 1 [(0, (.slc (p0.map AV.tree) p0.length false))] rfl (by kernel_rfl) ?_
  refine at_end rfl ?_
  refine aw_seq ?_
  refine aw_seq ?_
  refine aw_slcCases 0 rfl (fun hn55 _ => ?_) ?_
  · obtain rfl : p0 = [] := List.length_eq_zero_iff.1 hn55
    have h : (some (([] : List Tr))) = some r := by first | exact h | simpa [appL] using h
    refine aw_reg ?_
    refine at_run tt_ok 2 [(0, (.lit (.slice none 0 0))), (4, (.b true))] rfl (by kernel_rfl) ?_
    refine at_end rfl ?_
    refine aw_cond true rfl (fun _ => ?_) (fun h => by cases h)
    refine aw_seq ?_
    refine aw_reg ?_
    refine at_run tt_ok 1 [(2, (.lit (.slice none 0 0)))] rfl (by kernel_rfl) ?_
    refine at_end rfl ?_
    refine aw_adopt 2 25 1 rfl (fun o51 => ?_)
    refine aw_ret ?_
    obtain rfl := Option.some.inj h
    exact ⟨(.row o51 (([] : List Tr)).length), (.row o51 (([] : List Tr)).length), _, (res_tmps (by kernel_rfl)), (View.refl _), ⟨_, perm_sel _ [0], List.take_sublist 1 _⟩, o51, rfl, rfl⟩
  · refine aw_reg ?_
    refine at_run tt_ok 2 [(0, (.nslc (p0.map AV.tree) p0.length false)), (4, (.b false))] rfl (by kernel_rfl) ?_
    refine at_end rfl ?_
    refine aw_shift (Shift.weak 0 rfl (Weak.nslc _ _ _)) ?_
    refine aw_normal [(0, (.slc (p0.map AV.tree) p0.length false)), (4, (.b false))] (s' := []) (by kernel_rfl) rfl ?_
    refine aw_cond false rfl (fun h => by cases h) (fun _ => ?_)
    refine aw_skip ?_
    refine aw_seq ?_
    refine aw_reg ?_
    refine at_op rfl rfl rfl (aop_buildRow (cs := []) (ds := ((([] : List Tr)).map AV.tree)) tt_ok rfl rfl rfl rfl rfl (by kernel_rfl) rfl WL.nil) ?_
    rintro _ _ ⟨o52, rfl, rfl⟩
    refine at_run tt_ok 2 [(5, (.row o52 (([] : List Tr)).length)), (6, (.slc (p0.map AV.tree) p0.length false))] rfl (by kernel_rfl) ?_
    obtain ⟨v53, hv53, h⟩ := bind_some' h
    refine at_op rfl rfl rfl (aop_app1 (g := AV.tree) (l := ([] : List Tr)) (d := p0) (v := v53) (f := false) (id := o52) (j := 0) tt_ok hv53 rfl rfl rfl rfl rfl rfl rfl rfl rfl rfl) ?_
    rintro _ _ ⟨o54, rfl, rfl⟩
    refine at_run tt_ok 4 [(2, (.row o54 v53.length))] rfl (by kernel_rfl) ?_
    refine at_end rfl ?_
    refine aw_ret ?_
    obtain rfl := Option.some.inj h
    exact ⟨(.row o54 v53.length), (.row o54 v53.length), _, (res_tmps (by kernel_rfl)), (View.refl _), ⟨_, perm_sel _ [0], List.take_sublist 1 _⟩, o54, rfl, rfl⟩
def arena_put_S (K : Nat) : Prop := ∀ (p0 : Tr) (p1 : List Int) (p2 : Tr) (r : Tr), arena_put K p0 p1 p2 = some r → ACalls Try.prog 38 [(.tree p0), (.slc (p1.map AV.i) p1.length false), (.tree p2)] [] (fun av s => av = (.tree r) ∧ s = [])
theorem arena_put_step (K : Nat) (IH : ∀ j, j < K → arena_put_S j) : arena_put_S K := by
  intro p0 p1 p2 r h
  cases K with
  | zero => cases h
  | succ k0 =>
  refine acalls_enter Try.func38 rfl rfl ?_
  refine aw_seq ?_
  refine aw_normal [(0, (.tree p0)), (1, (.slc (p1.map AV.i) p1.length false)), (2, (.tree p2))] (s' := []) (by kernel_rfl) rfl ?_
  refine aw_reg ?_
  refine at_run tt_ok 1 [(0, (.tree p0)), (1, (.slc (p1.map AV.i) p1.length false)), (2, (.tree p2))] rfl (by kernel_rfl) ?_
  refine at_end rfl ?_
  refine aw_seq ?_
  refine aw_seq ?_
  refine aw_reg ?_
  refine at_run tt_ok 3 [(0, (.tree p0)), (1, (.slc (p1.map AV.i) p1.length false)), (2, (.tree p2)), (10, (.b ((decide ((((p1.length : Nat) : Int)) = 0)))))] rfl (by kernel_rfl) ?_
  refine at_end rfl ?_
  refine aw_cond ((decide ((((p1.length : Nat) : Int)) = 0))) rfl (fun hb1 => ?_) (fun hb1 => ?_)
  · have h := ite_t hb1 h
    refine aw_seq ?_
    refine aw_reg ?_
    refine at_run tt_ok 2 [(6, (.tree p2))] rfl (by kernel_rfl) ?_
    refine at_end rfl ?_
    refine aw_ret ?_
    obtain rfl := Option.some.inj h
    exact ⟨(.tree p2), (.tree p2), _, (res_tmps (by kernel_rfl)), (View.refl _), ⟨_, perm_sel _ [], List.take_sublist 0 _⟩, rfl, rfl⟩
  · have h := ite_f (by rw [hb1]; simp) h
    refine aw_skip ?_
    refine aw_seq ?_
    refine aw_reg ?_
    refine at_run tt_ok 1 [(0, (.tree p0)), (1, (.slc (p1.map AV.i) p1.length false)), (2, (.tree p2)), (12, (.tree p0))] rfl (by kernel_rfl) ?_
    cases p0 with
    | nil =>
      cases h
    | node n2 n3 n4 n5 n6 =>
      refine at_run tt_ok 3 [(0, (.tree ((.node n2 n3 n4 n5 n6)))), (1, (.slc (p1.map AV.i) p1.length false)), (2, (.tree p2)), (14, (.agg [(.i n2), (.i n3), (.s n4), (.s n5), (.slc (n6.map AV.tree) n6.length false)]))] rfl (by kernel_rfl) ?_
      refine at_op rfl rfl rfl (aop_alloc (zs := [(.int .i64 0), (.int .i64 0), (.string ⟨#[]⟩), (.string ⟨#[]⟩), (.slice none 0 0)]) tt_ok rfl rfl rfl) ?_
      rintro _ _ ⟨o7, rfl, rfl⟩
      refine at_one rfl rfl rfl (aop_storeRef (id := o7) (off := 0) (j := 0) (ds := [(.i n2), (.i n3), (.s n4), (.s n5), (.slc (n6.map AV.tree) n6.length false)]) tt_ok rfl rfl rfl rfl rfl) ?_
      refine at_end rfl ?_
      refine aw_seq ?_
      refine aw_normal [(0, (.tree ((.node n2 n3 n4 n5 n6)))), (1, (.slc (p1.map AV.i) p1.length false)), (2, (.tree p2)), (7, (.ref o7 0))] (s' := [(o7, .row 34 5 [(.i n2), (.i n3), (.s n4), (.s n5), (.slc (n6.map AV.tree) n6.length false)] 0)]) (by kernel_rfl) rfl ?_
      refine aw_reg ?_
      refine at_run tt_ok 4 [(0, (.tree ((.node n2 n3 n4 n5 n6)))), (1, (.slc (p1.map AV.i) p1.length false)), (2, (.tree p2)), (7, (.ref o7 0)), (18, (.slc (n6.map AV.tree) n6.length false))] rfl (by kernel_rfl) ?_
      obtain ⟨v8, hc9, h⟩ := bind_some' h
      refine at_op rfl rfl rfl (aop_call (first := []) (caps := []) (xs := [(.slc (n6.map AV.tree) n6.length false)]) (args' := [(.slc (n6.map AV.tree) n6.length false)]) (sm := []) (r := [(o7, .row 34 5 [(.i n2), (.i n3), (.s n4), (.s n5), (.slc (n6.map AV.tree) n6.length false)] 0)]) rfl (by kernel_rfl) Try.func45 rfl rfl (slices_Clone_row_ok k0 n6 _ hc9) (by kernel_rfl) (VW.refl _) (permTo [] (by kernel_rfl))) ?_
      rintro _ _ ⟨_, ⟨o10, rfl, rfl⟩, rfl⟩
      refine at_run tt_ok 6 [(0, (.tree ((.node n2 n3 n4 n5 n6)))), (1, (.slc (p1.map AV.i) p1.length false)), (2, (.tree p2)), (7, (.ref o7 0)), (19, (.row o10 v8.length)), (20, (.ref o7 4))] rfl (by kernel_rfl) ?_
      refine at_one rfl rfl rfl (aop_storeRef (id := o7) (off := 4) (j := 1) (ds := [(.row o10 v8.length)]) tt_ok rfl rfl rfl rfl rfl) ?_
      refine at_end rfl ?_
      refine aw_seq ?_
      refine aw_normal [(0, (.tree ((.node n2 n3 n4 n5 n6)))), (1, (.slc (p1.map AV.i) p1.length false)), (2, (.tree p2)), (7, (.ref o7 0))] (s' := [(o10, .row 25 1 (v8.map AV.tree) 0), (o7, .row 34 5 [(.i n2), (.i n3), (.s n4), (.s n5), (.row o10 v8.length)] 0)]) (by kernel_rfl) rfl ?_
      refine aw_draw mixed (by kernel_rfl) ?_
      refine j_run tt_ok [0, 2, 5, 6, 7, 8, 9, 14, 16] [16, 14, 9, 8, 7, 6, 5, 2, 0] (by kernel_rfl) ?_
      refine j_light1 1 (o7, .row 34 5 [(.i n2), (.i n3), (.s n4), (.s n5), (.row o10 v8.length)] 0) rfl (by kernel_rfl) rfl (by kernel_rfl) (fun s hq => (aop_loadM (av := (.row o10 v8.length)) (off := 4) tt_ok hq rfl (by kernel_rfl) (by kernel_rfl))) (j := 1) rfl ?_
      obtain ⟨v11, hv11, h⟩ := bind_some' h
      refine j_light0 3 rfl (by kernel_rfl) rfl (by kernel_rfl) (fun s => (aop_idx1 (k := .i64) (g := AV.i) (l := p1) (fu := false) (j := 0) (v := v11) tt_ok rfl rfl rfl (by kernel_rfl) (by kernel_rfl) hv11)) ?_
      refine j_run tt_ok [4] [4, 3, 1, 16, 14, 9, 8, 7, 6, 5, 2, 0] (by kernel_rfl) ?_
      obtain ⟨v12, hv12, h⟩ := bind_some' h
      refine j_light0 10 rfl (by kernel_rfl) rfl (by kernel_rfl) (fun s => (aop_idx1 (k := .i64) (g := AV.i) (l := p1) (fu := false) (j := 0) (v := v12) tt_ok rfl rfl rfl (by kernel_rfl) (by kernel_rfl) hv12)) ?_
      refine j_run tt_ok [11] [11, 10, 4, 3, 1, 16, 14, 9, 8, 7, 6, 5, 2, 0] (by kernel_rfl) ?_
      obtain ⟨v13, hv13, h⟩ := bind_some' h
      refine j_light0 12 rfl (by kernel_rfl) rfl (by kernel_rfl) (fun s => (aop_idx1 (k := .i64) (g := AV.tree) (l := n6) (fu := false) (j := v12) (v := v13) tt_ok rfl rfl rfl (by kernel_rfl) (by kernel_rfl) hv13)) ?_
      refine j_run tt_ok [13] [13, 12, 11, 10, 4, 3, 1, 16, 14, 9, 8, 7, 6, 5, 2, 0] (by kernel_rfl) ?_
      obtain ⟨v14, hv14, h⟩ := bind_some' h
      refine j_light0 15 rfl (by kernel_rfl) rfl (by kernel_rfl) (fun s => (aop_sub1 (g := AV.i) (l := p1) (fu := false) (a1 := 1) (b1 := ((p1.length : Nat) : Int)) (v := v14) tt_ok hv14 rfl rfl rfl (by kernel_rfl) (by kernel_rfl) (by kernel_rfl))) ?_
      obtain ⟨v17, hc18, h⟩ := bind_some' h
      refine .heavy 17 _ _ rfl (by kernel_rfl) rfl (by kernel_rfl) (aop_call (first := []) (caps := []) (xs := [(.tree v13), (.slc (v14.map AV.i) v14.length false), (.tree p2)]) (args' := [(.tree v13), (.slc (v14.map AV.i) v14.length false), (.tree p2)]) (sm := []) (r := [(o10, .row 25 1 (v8.map AV.tree) 0), (o7, .row 34 5 [(.i n2), (.i n3), (.s n4), (.s n5), (.row o10 v8.length)] 0)]) rfl (by kernel_rfl) Try.func38 rfl rfl ((IH k0 (by omega)) v13 v14 p2 _ hc18) (by kernel_rfl) (VW.refl _) (permTo [] (by kernel_rfl))) ?_ ?_
      · rintro _ _ ⟨_, ⟨rfl, rfl⟩, rfl⟩ l hl
        rcases List.mem_cons.1 hl with rfl | hl
        · exact .inr (fun p hp => by rw [List.mem_singleton.1 hp]; exact List.mem_of_getElem? (i := 1) rfl)
        · cases hl
      rintro _ _ ⟨_, ⟨rfl, rfl⟩, rfl⟩
      obtain ⟨v19, hv19, h⟩ := bind_some' h
      refine j_light0 18 rfl (by kernel_rfl) rfl (by kernel_rfl) (fun s => (aop_rowIdx1 (id := o10) (kd := .i64) (l := v8) (j := v11) (v := v19) tt_ok hv19 rfl rfl rfl (by kernel_rfl) (by kernel_rfl))) ?_
      refine .heavy 19 _ _ rfl (by kernel_rfl) rfl (by kernel_rfl) (aop_rowStore1 (g := AV.tree) (l := v8) (k := v11) (v := v19) (u := v17) (y' := (.tree v17)) tt_ok hv19 rfl rfl (by kernel_rfl) (by kernel_rfl) (View.refl _) rfl (j := 0) rfl) ?_ ?_
      · rintro _ _ ⟨rfl, rfl⟩ l hl
        rcases List.mem_cons.1 hl with rfl | hl
        · exact .inl (by kernel_rfl)
        · cases hl
      rintro _ _ ⟨rfl, rfl⟩
      refine .done (by kernel_rfl) ?_
      refine aw_seq ?_
      refine aw_normal [(7, (.ref o7 0))] (s' := [(o10, .row 25 1 (((v8.set v11.toNat v17)).map AV.tree) 0), (o7, .row 34 5 [(.i n2), (.i n3), (.s n4), (.s n5), (.row o10 ((v8.set v11.toNat v17)).length)] 0)]) (by (try simp only [List.length_set]); kernel_rfl) (by first | rfl | (simp only [List.length_set]; rfl)) ?_
      refine aw_reg ?_
      refine at_run tt_ok 1 [(6, (.ref o7 0))] rfl (by kernel_rfl) ?_
      refine at_end rfl ?_
      refine aw_shift (Shift.frz (j := 0) rfl) ?_
      refine aw_shift (Shift.cell (j := 1) 4 rfl rfl (View.row (j := 0) rfl (fun h => by rw [List.eq_nil_of_length_eq_zero h]; rfl))) ?_
      refine aw_shift (Shift.frz (j := 1) rfl) ?_
      refine aw_ret ?_
      obtain rfl := Option.some.inj h
      exact ⟨(.ref o7 0), (.tree ((.node n2 n3 n4 n5 ((v8.set v11.toNat v17))))), _, (res_tmps (by kernel_rfl)), ((View.ref (j := 1) rfl).trans (View.of_weak (Weak.node_tree _ _ _ _ _))), ⟨_, perm_sel _ [], List.take_sublist 0 _⟩, rfl, rfl⟩
theorem arena_put_all (K : Nat) : arena_put_S K := by
  induction K using Nat.strongRecOn with
  | _ K IH => exact arena_put_step K IH
theorem arena_put_ok (K : Nat) : ∀ (p0 : Tr) (p1 : List Int) (p2 : Tr) (r : Tr), arena_put K p0 p1 p2 = some r → ACalls Try.prog 38 [(.tree p0), (.slc (p1.map AV.i) p1.length false), (.tree p2)] [] (fun av s => av = (.tree r) ∧ s = []) := (arena_put_all K)
theorem arena_Put_ok (K : Nat) : ∀ (p0 : Tr) (p1 : List Int) (p2 : Tr) (r : Tr × Int), arena_Put K p0 p1 p2 = some r → ACalls Try.prog 25 [(.tree p0), (.slc (p1.map AV.i) p1.length false), (.tree p2)] [] (fun av s => av = (.tup [(.tree r.1), (.i r.2)]) ∧ s = []) := by
  intro p0 p1 p2 r h
  refine acalls_enter Try.func25 rfl rfl ?_
  refine aw_seq ?_
  refine aw_normal [(0, (.tree p0)), (1, (.slc (p1.map AV.i) p1.length false)), (2, (.tree p2))] (s' := []) (by kernel_rfl) rfl ?_
  refine aw_reg ?_
  refine at_run tt_ok 2 [(0, (.tree p0)), (1, (.slc (p1.map AV.i) p1.length false)), (2, (.tree p2))] rfl (by kernel_rfl) ?_
  refine at_end rfl ?_
  refine aw_seq ?_
  refine aw_seq ?_
  refine aw_reg ?_
  refine at_run tt_ok 2 [(0, (.tree p0)), (1, (.slc (p1.map AV.i) p1.length false)), (2, (.tree p2)), (11, (.tree p0)), (12, (.slc (p1.map AV.i) p1.length false))] rfl (by kernel_rfl) ?_
  obtain ⟨⟨v1, v2⟩, hc3, h⟩ := bind_some' h
  refine at_op rfl rfl rfl (aop_call (first := []) (caps := []) (xs := [(.tree p0), (.slc (p1.map AV.i) p1.length false)]) (args' := [(.tree p0), (.slc (p1.map AV.i) p1.length false)]) (sm := []) (r := []) rfl (by kernel_rfl) Try.func23 rfl rfl (arena_At_ok K p0 p1 _ hc3) (by kernel_rfl) (VW.refl _) (permTo [] (by kernel_rfl))) ?_
  rintro _ _ ⟨_, ⟨rfl, rfl⟩, rfl⟩
  refine at_run tt_ok 8 [(0, (.tree p0)), (1, (.slc (p1.map AV.i) p1.length false)), (2, (.tree p2)), (9, (.i v2))] rfl (by kernel_rfl) ?_
  refine at_end rfl ?_
  refine aw_seq ?_
  refine aw_reg ?_
  refine at_run tt_ok 2 [(0, (.tree p0)), (1, (.slc (p1.map AV.i) p1.length false)), (2, (.tree p2)), (9, (.i v2)), (17, (.b ((!decide (v2 = 0)))))] rfl (by kernel_rfl) ?_
  refine at_end rfl ?_
  refine aw_cond ((!decide (v2 = 0))) rfl (fun hb4 => ?_) (fun hb4 => ?_)
  · have h := ite_t hb4 h
    refine aw_seq ?_
    refine aw_reg ?_
    refine at_run tt_ok 3 [(6, .nil), (7, (.i v2))] rfl (by kernel_rfl) ?_
    refine at_end rfl ?_
    refine aw_ret ?_
    obtain rfl := Option.some.inj h
    exact ⟨(.tup [.nil, (.i v2)]), (.tup [(.tree (.nil)), (.i v2)]), _, (res_tmps (by kernel_rfl)), (View.tup (VW.cons (View.of_weak Weak.nil_tree) (VW.same VW.nil))), ⟨_, perm_sel _ [], List.take_sublist 0 _⟩, rfl, rfl⟩
  · have h := ite_f (by rw [hb4]; simp) h
    refine aw_skip ?_
    refine aw_seq ?_
    refine aw_seq ?_
    refine aw_reg ?_
    refine at_run tt_ok 1 [(0, (.tree p0)), (1, (.slc (p1.map AV.i) p1.length false)), (2, (.tree p2)), (19, (.tree p2))] rfl (by kernel_rfl) ?_
    cases p2 with
    | nil =>
      refine at_run tt_ok 2 [(0, (.tree p0)), (1, (.slc (p1.map AV.i) p1.length false)), (2, (.tree (.nil))), (20, (.b true))] rfl (by kernel_rfl) ?_
      refine at_end rfl ?_
      refine aw_cond true rfl (fun _ => ?_) (fun h => by cases h)
      refine aw_seq ?_
      refine aw_reg ?_
      refine at_run tt_ok 2 [(6, .nil), (7, (.i 1))] rfl (by kernel_rfl) ?_
      refine at_end rfl ?_
      refine aw_ret ?_
      obtain rfl := Option.some.inj h
      exact ⟨(.tup [.nil, (.i 1)]), (.tup [(.tree (.nil)), (.i 1)]), _, (res_tmps (by kernel_rfl)), (View.tup (VW.cons (View.of_weak Weak.nil_tree) (VW.same VW.nil))), ⟨_, perm_sel _ [], List.take_sublist 0 _⟩, rfl, rfl⟩
    | node n5 n6 n7 n8 n9 =>
      refine at_run tt_ok 2 [(0, (.tree p0)), (1, (.slc (p1.map AV.i) p1.length false)), (2, (.tree ((.node n5 n6 n7 n8 n9)))), (20, (.b false))] rfl (by kernel_rfl) ?_
      refine at_end rfl ?_
      refine aw_cond false rfl (fun h => by cases h) (fun _ => ?_)
      refine aw_skip ?_
      refine aw_seq ?_
      refine aw_reg ?_
      refine at_run tt_ok 3 [(21, (.tree p0)), (22, (.slc (p1.map AV.i) p1.length false)), (23, (.tree ((.node n5 n6 n7 n8 n9))))] rfl (by kernel_rfl) ?_
      obtain ⟨v10, hc11, h⟩ := bind_some' h
      refine at_op rfl rfl rfl (aop_call (first := []) (caps := []) (xs := [(.tree p0), (.slc (p1.map AV.i) p1.length false), (.tree ((.node n5 n6 n7 n8 n9)))]) (args' := [(.tree p0), (.slc (p1.map AV.i) p1.length false), (.tree ((.node n5 n6 n7 n8 n9)))]) (sm := []) (r := []) rfl (by kernel_rfl) Try.func38 rfl rfl (arena_put_ok K p0 p1 ((.node n5 n6 n7 n8 n9)) _ hc11) (by kernel_rfl) (VW.refl _) (permTo [] (by kernel_rfl))) ?_
      rintro _ _ ⟨_, ⟨rfl, rfl⟩, rfl⟩
      refine at_run tt_ok 6 [(6, (.tree v10)), (7, (.i 0))] rfl (by kernel_rfl) ?_
      refine at_end rfl ?_
      refine aw_ret ?_
      obtain rfl := Option.some.inj h
      exact ⟨(.tup [(.tree v10), (.i 0)]), (.tup [(.tree v10), (.i 0)]), _, (res_tmps (by kernel_rfl)), (View.refl _), ⟨_, perm_sel _ [], List.take_sublist 0 _⟩, rfl, rfl⟩
theorem ref04_At_ok (K : Nat) : ∀ (p0 : Tr) (p1 : List Int) (r : Tr × Int), ref04_At K p0 p1 = some r → ACalls Try.prog 24 [(.tree p0), (.slc (p1.map AV.i) p1.length false)] [] (fun av s => av = (.tup [(.tree r.1), (.i r.2)]) ∧ s = []) := by
  intro p0 p1 r h
  refine acalls_enter Try.func24 rfl rfl ?_
  refine aw_seq ?_
  refine aw_normal [(0, (.tree p0)), (1, (.slc (p1.map AV.i) p1.length false))] (s' := []) (by kernel_rfl) rfl ?_
  refine aw_reg ?_
  refine at_run tt_ok 2 [(0, (.tree p0)), (1, (.slc (p1.map AV.i) p1.length false))] rfl (by kernel_rfl) ?_
  refine at_end rfl ?_
  refine aw_seq ?_
  refine aw_seq ?_
  refine aw_reg ?_
  refine at_run tt_ok 1 [(0, (.tree p0)), (1, (.slc (p1.map AV.i) p1.length false)), (7, (.tree p0))] rfl (by kernel_rfl) ?_
  cases p0 with
  | nil =>
    refine at_run tt_ok 2 [(0, (.tree (.nil))), (1, (.slc (p1.map AV.i) p1.length false)), (8, (.b true))] rfl (by kernel_rfl) ?_
    refine at_end rfl ?_
    refine aw_cond true rfl (fun _ => ?_) (fun h => by cases h)
    refine aw_seq ?_
    refine aw_reg ?_
    refine at_run tt_ok 2 [(4, .nil), (5, (.i 1))] rfl (by kernel_rfl) ?_
    refine at_end rfl ?_
    refine aw_ret ?_
    obtain rfl := Option.some.inj h
    exact ⟨(.tup [.nil, (.i 1)]), (.tup [(.tree (.nil)), (.i 1)]), _, (res_tmps (by kernel_rfl)), (View.tup (VW.cons (View.of_weak Weak.nil_tree) (VW.same VW.nil))), ⟨_, perm_sel _ [], List.take_sublist 0 _⟩, rfl, rfl⟩
  | node n1 n2 n3 n4 n5 =>
    refine at_run tt_ok 2 [(0, (.tree ((.node n1 n2 n3 n4 n5)))), (1, (.slc (p1.map AV.i) p1.length false)), (8, (.b false))] rfl (by kernel_rfl) ?_
    refine at_end rfl ?_
    refine aw_cond false rfl (fun h => by cases h) (fun _ => ?_)
    refine aw_skip ?_
    refine aw_seq ?_
    refine aw_seq ?_
    refine aw_reg ?_
    refine at_run tt_ok 1 [(0, (.tree ((.node n1 n2 n3 n4 n5)))), (1, (.slc (p1.map AV.i) p1.length false)), (6, (.i 0))] rfl (by kernel_rfl) ?_
    refine at_end rfl ?_
    refine aw_block ?_
    refine aw_loop_ind' (X := Tr × Int) (fun k' x => k' ≤ K ∧ ref04_At_l0 k' p1 x.1 x.2 = some r) (fun x => [(0, (.tree x.1)), (1, (.slc (p1.map AV.i) p1.length false)), (6, (.i x.2))]) (fun x => []) (fun x hx => by cases hx.2) ?_ K ((.node n1 n2 n3 n4 n5), 0) ⟨Nat.le_refl _, h⟩ (by kernel_rfl) rfl
    clear h
    rintro k9 ⟨w0_1, w0_2⟩ ⟨hlek9, h⟩
    refine aw_seq ?_
    refine aw_seq ?_
    refine aw_reg ?_
    refine at_run tt_ok 4 [(0, (.tree w0_1)), (1, (.slc (p1.map AV.i) p1.length false)), (6, (.i w0_2)), (12, (.b ((decide (w0_2 < (((p1.length : Nat) : Int)))))))] rfl (by kernel_rfl) ?_
    refine at_end rfl ?_
    refine aw_cond ((decide (w0_2 < (((p1.length : Nat) : Int))))) rfl (fun hb10 => ?_) (fun hb10 => ?_)
    · have h := ite_t hb10 h
      refine aw_skip ?_
      refine aw_seq ?_
      refine aw_block ?_
      refine aw_seq ?_
      refine aw_seq ?_
      refine aw_draw mixed (by kernel_rfl) ?_
      refine j_run tt_ok [0, 1] [1, 0] (by kernel_rfl) ?_
      obtain ⟨v11, hv11, h⟩ := bind_some' h
      refine j_light0 2 rfl (by kernel_rfl) rfl (by kernel_rfl) (fun s => (aop_idx1 (k := .i64) (g := AV.i) (l := p1) (fu := false) (j := w0_2) (v := v11) tt_ok rfl rfl rfl (by kernel_rfl) (by kernel_rfl) hv11)) ?_
      refine j_run tt_ok [3, 4, 5] [5, 4, 3, 2, 1, 0] (by kernel_rfl) ?_
      by_cases hb12 : (decide (v11 < 0)) = true
      · have h := ite_t hb12 h
        refine j_setb 20 (by kernel_rfl) hb12 ?_
        refine j_run tt_ok [6, 7, 8, 9, 10, 11, 12, 13, 14, 15, 16, 17, 18, 19, 20, 21, 22, 23, 24, 25, 26, 27, 28, 29] [29, 28, 27, 26, 25, 24, 23, 22, 21, 20, 19, 18, 17, 16, 15, 14, 13, 12, 11, 10, 9, 8, 7, 6, 5, 4, 3, 2, 1, 0] (by kernel_rfl) ?_
        refine .done (by kernel_rfl) ?_
        refine aw_normal [(0, (.tree w0_1)), (1, (.slc (p1.map AV.i) p1.length false)), (6, (.i w0_2)), (44, (.b true))] (s' := []) (by kernel_rfl) rfl ?_
        refine aw_cond true rfl (fun _ => ?_) (fun h => by cases h)
        refine aw_seq ?_
        refine aw_reg ?_
        refine at_run tt_ok 2 [(4, .nil), (5, (.i 21))] rfl (by kernel_rfl) ?_
        refine at_end rfl ?_
        refine aw_ret ?_
        obtain rfl := Option.some.inj h
        exact ⟨(.tup [.nil, (.i 21)]), (.tup [(.tree (.nil)), (.i 21)]), _, (res_tmps (by kernel_rfl)), (View.tup (VW.cons (View.of_weak Weak.nil_tree) (VW.same VW.nil))), ⟨_, perm_sel _ [], List.take_sublist 0 _⟩, rfl, rfl⟩
      · have h := ite_f hb12 h
        refine j_setb 20 (by kernel_rfl) (nott hb12) ?_
        refine j_run tt_ok [6, 7, 10] [10, 7, 6, 5, 4, 3, 2, 1, 0] (by kernel_rfl) ?_
        obtain ⟨v13, hv13, h⟩ := bind_some' h
        refine j_light0 8 rfl (by kernel_rfl) rfl (by kernel_rfl) (fun s => (aop_idx1 (k := .i64) (g := AV.i) (l := p1) (fu := false) (j := w0_2) (v := v13) tt_ok rfl rfl rfl (by kernel_rfl) (by kernel_rfl) hv13)) ?_
        refine j_run tt_ok [9] [9, 8, 10, 7, 6, 5, 4, 3, 2, 1, 0] (by kernel_rfl) ?_
        cases w0_1 with
        | nil =>
          cases h
        | node n14 n15 n16 n17 n18 =>
          refine j_run tt_ok [11, 12, 13, 14, 15, 16, 17] [17, 16, 15, 14, 13, 12, 11, 9, 8, 10, 7, 6, 5, 4, 3, 2, 1, 0] (by kernel_rfl) ?_
          by_cases hb19 : (decide ((((n18.length : Nat) : Int)) ≤ v13)) = true
          · have h := ite_t hb19 h
            refine j_setb 30 (by kernel_rfl) hb19 ?_
            refine j_setb 32 (by kernel_rfl) hb19 ?_
            refine j_run tt_ok [18, 19, 20, 21, 22, 23, 24, 25, 26, 27, 28, 29] [29, 28, 27, 26, 25, 24, 23, 22, 21, 20, 19, 18, 17, 16, 15, 14, 13, 12, 11, 9, 8, 10, 7, 6, 5, 4, 3, 2, 1, 0] (by kernel_rfl) ?_
            refine .done (by kernel_rfl) ?_
            refine aw_normal [(0, (.tree ((.node n14 n15 n16 n17 n18)))), (1, (.slc (p1.map AV.i) p1.length false)), (6, (.i w0_2)), (21, (.slc (p1.map AV.i) p1.length false)), (22, (.i w0_2)), (23, (.ptr [(.i v13)])), (24, (.i v13)), (25, (.tree ((.node n14 n15 n16 n17 n18)))), (26, (.ptr [(.i n14), (.i n15), (.s n16), (.s n17), (.slc (n18.map AV.tree) n18.length false)])), (27, (.ptr [(.slc (n18.map AV.tree) n18.length false)])), (28, (.slc (n18.map AV.tree) n18.length false)), (29, (.i (((n18.length : Nat) : Int)))), (30, (.b true)), (44, (.b true))] (s' := []) (by kernel_rfl) rfl ?_
            refine aw_cond true rfl (fun _ => ?_) (fun h => by cases h)
            refine aw_seq ?_
            refine aw_reg ?_
            refine at_run tt_ok 2 [(4, .nil), (5, (.i 21))] rfl (by kernel_rfl) ?_
            refine at_end rfl ?_
            refine aw_ret ?_
            obtain rfl := Option.some.inj h
            exact ⟨(.tup [.nil, (.i 21)]), (.tup [(.tree (.nil)), (.i 21)]), _, (res_tmps (by kernel_rfl)), (View.tup (VW.cons (View.of_weak Weak.nil_tree) (VW.same VW.nil))), ⟨_, perm_sel _ [], List.take_sublist 0 _⟩, rfl, rfl⟩
          · have h := ite_f hb19 h
            refine j_setb 30 (by kernel_rfl) (nott hb19) ?_
            refine j_setb 32 (by kernel_rfl) (nott hb19) ?_
            refine j_run tt_ok [18, 19, 20, 21, 22, 23] [23, 22, 21, 20, 19, 18, 17, 16, 15, 14, 13, 12, 11, 9, 8, 10, 7, 6, 5, 4, 3, 2, 1, 0] (by kernel_rfl) ?_
            obtain ⟨v20, hv20, h⟩ := bind_some' h
            refine j_light0 24 rfl (by kernel_rfl) rfl (by kernel_rfl) (fun s => (aop_idx1 (k := .i64) (g := AV.i) (l := p1) (fu := false) (j := w0_2) (v := v20) tt_ok rfl rfl rfl (by kernel_rfl) (by kernel_rfl) hv20)) ?_
            refine j_run tt_ok [25] [25, 24, 23, 22, 21, 20, 19, 18, 17, 16, 15, 14, 13, 12, 11, 9, 8, 10, 7, 6, 5, 4, 3, 2, 1, 0] (by kernel_rfl) ?_
            obtain ⟨v21, hv21, h⟩ := bind_some' h
            refine j_light0 26 rfl (by kernel_rfl) rfl (by kernel_rfl) (fun s => (aop_idx1 (k := .i64) (g := AV.tree) (l := n18) (fu := false) (j := v20) (v := v21) tt_ok rfl rfl rfl (by kernel_rfl) (by kernel_rfl) hv21)) ?_
            refine j_run tt_ok [27] [27, 26, 25, 24, 23, 22, 21, 20, 19, 18, 17, 16, 15, 14, 13, 12, 11, 9, 8, 10, 7, 6, 5, 4, 3, 2, 1, 0] (by kernel_rfl) ?_
            cases v21 with
            | nil =>
              refine j_run tt_ok [28, 29] [29, 28, 27, 26, 25, 24, 23, 22, 21, 20, 19, 18, 17, 16, 15, 14, 13, 12, 11, 9, 8, 10, 7, 6, 5, 4, 3, 2, 1, 0] (by kernel_rfl) ?_
              refine .done (by kernel_rfl) ?_
              refine aw_normal [(0, (.tree ((.node n14 n15 n16 n17 n18)))), (1, (.slc (p1.map AV.i) p1.length false)), (6, (.i w0_2)), (21, (.slc (p1.map AV.i) p1.length false)), (22, (.i w0_2)), (23, (.ptr [(.i v13)])), (24, (.i v13)), (25, (.tree ((.node n14 n15 n16 n17 n18)))), (26, (.ptr [(.i n14), (.i n15), (.s n16), (.s n17), (.slc (n18.map AV.tree) n18.length false)])), (27, (.ptr [(.slc (n18.map AV.tree) n18.length false)])), (28, (.slc (n18.map AV.tree) n18.length false)), (29, (.i (((n18.length : Nat) : Int)))), (30, (.b false)), (33, (.tree ((.node n14 n15 n16 n17 n18)))), (34, (.ptr [(.i n14), (.i n15), (.s n16), (.s n17), (.slc (n18.map AV.tree) n18.length false)])), (35, (.ptr [(.slc (n18.map AV.tree) n18.length false)])), (36, (.slc (n18.map AV.tree) n18.length false)), (37, (.slc (p1.map AV.i) p1.length false)), (38, (.i w0_2)), (39, (.ptr [(.i v20)])), (40, (.i v20)), (41, (.ptr [(.tree (.nil))])), (42, (.tree (.nil))), (43, (.b true)), (44, (.b true))] (s' := []) (by kernel_rfl) rfl ?_
              refine aw_cond true rfl (fun _ => ?_) (fun h => by cases h)
              refine aw_seq ?_
              refine aw_reg ?_
              refine at_run tt_ok 2 [(4, .nil), (5, (.i 21))] rfl (by kernel_rfl) ?_
              refine at_end rfl ?_
              refine aw_ret ?_
              obtain rfl := Option.some.inj h
              exact ⟨(.tup [.nil, (.i 21)]), (.tup [(.tree (.nil)), (.i 21)]), _, (res_tmps (by kernel_rfl)), (View.tup (VW.cons (View.of_weak Weak.nil_tree) (VW.same VW.nil))), ⟨_, perm_sel _ [], List.take_sublist 0 _⟩, rfl, rfl⟩
            | node n22 n23 n24 n25 n26 =>
              refine j_run tt_ok [28, 29] [29, 28, 27, 26, 25, 24, 23, 22, 21, 20, 19, 18, 17, 16, 15, 14, 13, 12, 11, 9, 8, 10, 7, 6, 5, 4, 3, 2, 1, 0] (by kernel_rfl) ?_
              refine .done (by kernel_rfl) ?_
              refine aw_normal [(0, (.tree ((.node n14 n15 n16 n17 n18)))), (1, (.slc (p1.map AV.i) p1.length false)), (6, (.i w0_2)), (21, (.slc (p1.map AV.i) p1.length false)), (22, (.i w0_2)), (23, (.ptr [(.i v13)])), (24, (.i v13)), (25, (.tree ((.node n14 n15 n16 n17 n18)))), (26, (.ptr [(.i n14), (.i n15), (.s n16), (.s n17), (.slc (n18.map AV.tree) n18.length false)])), (27, (.ptr [(.slc (n18.map AV.tree) n18.length false)])), (28, (.slc (n18.map AV.tree) n18.length false)), (29, (.i (((n18.length : Nat) : Int)))), (30, (.b false)), (33, (.tree ((.node n14 n15 n16 n17 n18)))), (34, (.ptr [(.i n14), (.i n15), (.s n16), (.s n17), (.slc (n18.map AV.tree) n18.length false)])), (35, (.ptr [(.slc (n18.map AV.tree) n18.length false)])), (36, (.slc (n18.map AV.tree) n18.length false)), (37, (.slc (p1.map AV.i) p1.length false)), (38, (.i w0_2)), (39, (.ptr [(.i v20)])), (40, (.i v20)), (41, (.ptr [(.tree ((.node n22 n23 n24 n25 n26)))])), (42, (.tree ((.node n22 n23 n24 n25 n26)))), (43, (.b false)), (44, (.b false))] (s' := []) (by kernel_rfl) rfl ?_
              refine aw_cond false rfl (fun h => by cases h) (fun _ => ?_)
              refine aw_skip ?_
              refine aw_draw mixed (by kernel_rfl) ?_
              refine j_run tt_ok [0, 1, 2, 3, 4, 5] [5, 4, 3, 2, 1, 0] (by kernel_rfl) ?_
              obtain ⟨v27, hv27, h⟩ := bind_some' h
              refine j_light0 6 rfl (by kernel_rfl) rfl (by kernel_rfl) (fun s => (aop_idx1 (k := .i64) (g := AV.i) (l := p1) (fu := false) (j := w0_2) (v := v27) tt_ok rfl rfl rfl (by kernel_rfl) (by kernel_rfl) hv27)) ?_
              refine j_run tt_ok [7] [7, 6, 5, 4, 3, 2, 1, 0] (by kernel_rfl) ?_
              obtain ⟨v28, hv28, h⟩ := bind_some' h
              refine j_light0 8 rfl (by kernel_rfl) rfl (by kernel_rfl) (fun s => (aop_idx1 (k := .i64) (g := AV.tree) (l := n18) (fu := false) (j := v27) (v := v28) tt_ok rfl rfl rfl (by kernel_rfl) (by kernel_rfl) hv28)) ?_
              refine j_run tt_ok [9] [9, 8, 7, 6, 5, 4, 3, 2, 1, 0] (by kernel_rfl) ?_
              refine .heavy 10 _ _ rfl (by kernel_rfl) rfl (by kernel_rfl) (pop_sound tt_ok (av := (.tree v28)) (by kernel_rfl)) ?_ ?_
              · rintro _ _ ⟨rfl, rfl⟩ l hl
                cases hl
              rintro _ _ ⟨rfl, rfl⟩
              refine .done (by kernel_rfl) ?_
              refine aw_normal [(0, (.tree v28)), (1, (.slc (p1.map AV.i) p1.length false)), (6, (.i w0_2)), (21, (.slc (p1.map AV.i) p1.length false)), (22, (.i w0_2)), (23, (.ptr [(.i v13)])), (24, (.i v13)), (25, (.tree ((.node n14 n15 n16 n17 n18)))), (26, (.ptr [(.i n14), (.i n15), (.s n16), (.s n17), (.slc (n18.map AV.tree) n18.length false)])), (27, (.ptr [(.slc (n18.map AV.tree) n18.length false)])), (28, (.slc (n18.map AV.tree) n18.length false)), (29, (.i (((n18.length : Nat) : Int)))), (30, (.b false)), (33, (.tree ((.node n14 n15 n16 n17 n18)))), (34, (.ptr [(.i n14), (.i n15), (.s n16), (.s n17), (.slc (n18.map AV.tree) n18.length false)])), (35, (.ptr [(.slc (n18.map AV.tree) n18.length false)])), (36, (.slc (n18.map AV.tree) n18.length false)), (37, (.slc (p1.map AV.i) p1.length false)), (38, (.i w0_2)), (39, (.ptr [(.i v20)])), (40, (.i v20)), (41, (.ptr [(.tree ((.node n22 n23 n24 n25 n26)))])), (42, (.tree ((.node n22 n23 n24 n25 n26)))), (43, (.b false))] (s' := []) (by kernel_rfl) rfl ?_
              refine aw_reg ?_
              refine at_run tt_ok 3 [(0, (.tree v28)), (1, (.slc (p1.map AV.i) p1.length false)), (6, (.i ((IntKind.i64.wrap (w0_2 + 1))))), (21, (.slc (p1.map AV.i) p1.length false)), (22, (.i w0_2)), (23, (.ptr [(.i v13)])), (24, (.i v13)), (25, (.tree ((.node n14 n15 n16 n17 n18)))), (26, (.ptr [(.i n14), (.i n15), (.s n16), (.s n17), (.slc (n18.map AV.tree) n18.length false)])), (27, (.ptr [(.slc (n18.map AV.tree) n18.length false)])), (28, (.slc (n18.map AV.tree) n18.length false)), (29, (.i (((n18.length : Nat) : Int)))), (30, (.b false)), (33, (.tree ((.node n14 n15 n16 n17 n18)))), (34, (.ptr [(.i n14), (.i n15), (.s n16), (.s n17), (.slc (n18.map AV.tree) n18.length false)])), (35, (.ptr [(.slc (n18.map AV.tree) n18.length false)])), (36, (.slc (n18.map AV.tree) n18.length false)), (37, (.slc (p1.map AV.i) p1.length false)), (38, (.i w0_2)), (39, (.ptr [(.i v20)])), (40, (.i v20)), (41, (.ptr [(.tree ((.node n22 n23 n24 n25 n26)))])), (42, (.tree ((.node n22 n23 n24 n25 n26)))), (43, (.b false))] rfl (by kernel_rfl) ?_
              refine at_end rfl ?_
              exact ⟨k9, (v28, (IntKind.i64.wrap (w0_2 + 1))), [], [], by omega, ⟨by omega, h⟩, by kernel_rfl, rfl⟩
    · have h := ite_f (by rw [hb10]; simp) h
      refine aw_exit ?_
      refine aw_seq ?_
      refine aw_reg ?_
      refine at_run tt_ok 3 [(4, (.tree w0_1)), (5, (.i 0))] rfl (by kernel_rfl) ?_
      refine at_end rfl ?_
      refine aw_ret ?_
      obtain rfl := Option.some.inj h
      exact ⟨(.tup [(.tree w0_1), (.i 0)]), (.tup [(.tree w0_1), (.i 0)]), _, (res_tmps (by kernel_rfl)), (View.refl _), ⟨_, perm_sel _ [], List.take_sublist 0 _⟩, rfl, rfl⟩
def ref04_Paths_S (K : Nat) : Prop := ∀ (p0 : Tr) (p1 : Int) (r : (List (List Int))), ref04_Paths K p0 p1 = some r → ACalls Try.prog 29 [(.tree p0), (.i p1)] [] (fun av s => av = (.slc (r.map (fun l => AV.slc (l.map AV.i) l.length false)) r.length false) ∧ s = [])
theorem ref04_Paths_step (K : Nat) (IH : ∀ j, j < K → ref04_Paths_S j) : ref04_Paths_S K := by
  intro p0 p1 r h
  cases K with
  | zero => cases h
  | succ k0 =>
  refine acalls_enter Try.func29 rfl rfl ?_
  refine aw_seq ?_
  refine aw_normal [(0, (.tree p0)), (1, (.i p1))] (s' := []) (by kernel_rfl) rfl ?_
  refine aw_reg ?_
  refine at_run tt_ok 1 [(0, (.tree p0)), (1, (.i p1))] rfl (by kernel_rfl) ?_
  refine at_end rfl ?_
  refine aw_seq ?_
  refine aw_seq ?_
  refine aw_reg ?_
  refine at_run tt_ok 1 [(0, (.tree p0)), (1, (.i p1)), (9, (.tree p0))] rfl (by kernel_rfl) ?_
  cases p0 with
  | nil =>
    refine at_run tt_ok 2 [(0, (.tree (.nil))), (1, (.i p1)), (10, (.b true))] rfl (by kernel_rfl) ?_
    refine at_end rfl ?_
    refine aw_cond true rfl (fun _ => ?_) (fun h => by cases h)
    refine aw_seq ?_
    refine aw_reg ?_
    refine at_run tt_ok 1 [(4, (.lit (.slice none 0 0)))] rfl (by kernel_rfl) ?_
    refine at_end rfl ?_
    refine aw_ret ?_
    obtain rfl := Option.some.inj h
    exact ⟨(.lit (.slice none 0 0)), (.slc ((([] : List (List Int))).map (fun l => AV.slc (l.map AV.i) l.length false)) (([] : List (List Int))).length false), _, (res_tmps (by kernel_rfl)), (View.of_weak (Weak.nil_slc false)), ⟨_, perm_sel _ [], List.take_sublist 0 _⟩, rfl, rfl⟩
  | node n1 n2 n3 n4 n5 =>
    refine at_run tt_ok 2 [(0, (.tree ((.node n1 n2 n3 n4 n5)))), (1, (.i p1)), (10, (.b false))] rfl (by kernel_rfl) ?_
    refine at_end rfl ?_
    refine aw_cond false rfl (fun h => by cases h) (fun _ => ?_)
    refine aw_skip ?_
    refine aw_seq ?_
    refine aw_reg ?_
    refine at_run tt_ok 1 [(0, (.tree ((.node n1 n2 n3 n4 n5)))), (1, (.i p1)), (5, (.lit (.slice none 0 0)))] rfl (by kernel_rfl) ?_
    refine at_end rfl ?_
    refine aw_seq ?_
    refine aw_seq ?_
    refine aw_reg ?_
    refine at_run tt_ok 3 [(0, (.tree ((.node n1 n2 n3 n4 n5)))), (1, (.i p1)), (5, (.lit (.slice none 0 0))), (13, (.b ((decide (p1 < 0)))))] rfl (by kernel_rfl) ?_
    by_cases hb6 : (decide (p1 < 0)) = true
    · have h := ite_t hb6 h
      refine at_setb 13 rfl hb6 ?_
      refine at_run tt_ok 10 [(0, (.tree ((.node n1 n2 n3 n4 n5)))), (1, (.i p1)), (5, (.lit (.slice none 0 0))), (20, (.b true))] rfl (by kernel_rfl) ?_
      refine at_end rfl ?_
      refine aw_cond true rfl (fun _ => ?_) (fun h => by cases h)
      refine aw_adopt 5 45 1 rfl (fun o7 => ?_)
      refine aw_normal [(0, (.tree ((.node n1 n2 n3 n4 n5)))), (1, (.i p1)), (5, (.row o7 (([] : List (List Int))).length)), (20, (.b true))] (s' := [(o7, .row 45 1 ((([] : List (List Int))).map (fun l => AV.slc (l.map AV.i) l.length false)) 0)]) (by kernel_rfl) rfl ?_
      refine aw_reg ?_
      refine at_run tt_ok 1 [(0, (.tree ((.node n1 n2 n3 n4 n5)))), (1, (.i p1)), (21, (.row o7 (([] : List (List Int))).length))] rfl (by kernel_rfl) ?_
      refine at_one rfl rfl rfl (AOp.view (x := .slc [(.lit (.slice none 0 0))] 1 true) (y := (.slc ((([([] : List Int)] : List (List Int))).map (fun l => AV.slc (l.map AV.i) l.length false)) (([([] : List Int)] : List (List Int))).length true)) (pop_sound tt_ok (by kernel_rfl)) (WL.slc (WL.cons (Weak.nil_slc false) WL.nil))) ?_
      obtain ⟨v57, hv57, h⟩ := bind_some' h
      refine at_op rfl rfl rfl (aop_app1 (g := (fun l => AV.slc (l.map AV.i) l.length false)) (l := ([] : List (List Int))) (d := ([([] : List Int)] : List (List Int))) (v := v57) (f := true) (id := o7) (j := 0) tt_ok hv57 rfl rfl rfl rfl rfl rfl rfl rfl rfl rfl) ?_
      rintro _ _ ⟨o58, rfl, rfl⟩
      refine at_run tt_ok 4 [(0, (.tree ((.node n1 n2 n3 n4 n5)))), (1, (.i p1)), (5, (.row o58 v57.length))] rfl (by kernel_rfl) ?_
      refine at_end rfl ?_
      refine aw_seq ?_
      refine aw_seq ?_
      refine aw_reg ?_
      refine at_run tt_ok 1 [(0, (.tree ((.node n1 n2 n3 n4 n5)))), (1, (.i p1)), (5, (.row o58 v57.length)), (6, (.i 0))] rfl (by kernel_rfl) ?_
      refine at_end rfl ?_
      refine aw_block ?_
      refine aw_loop_ind' (X := Int × (List (List Int)) × Nat) (fun k' x => k' ≤ k0 ∧ ref04_Paths_l0 k' p1 n1 n2 n3 n4 n5 x.1 x.2.1 = some r) (fun x => [(0, (.tree ((.node n1 n2 n3 n4 n5)))), (1, (.i p1)), (5, (.row x.2.2 x.2.1.length)), (6, (.i x.1))]) (fun x => [(x.2.2, .row 45 1 (x.2.1.map (fun l => AV.slc (l.map AV.i) l.length false)) 0)]) (fun x hx => by cases hx.2) ?_ k0 (0, v57, o58) ⟨Nat.le_refl _, h⟩ (by kernel_rfl) rfl
      clear h
      rintro k63 ⟨w0_2, w0_3, i0_1⟩ ⟨hlek63, h⟩
      refine aw_seq ?_
      refine aw_seq ?_
      refine aw_reg ?_
      refine at_run tt_ok 7 [(0, (.tree ((.node n1 n2 n3 n4 n5)))), (1, (.i p1)), (5, (.row i0_1 w0_3.length)), (6, (.i w0_2)), (30, (.b ((decide (w0_2 < (((n5.length : Nat) : Int)))))))] rfl (by kernel_rfl) ?_
      refine at_end rfl ?_
      refine aw_cond ((decide (w0_2 < (((n5.length : Nat) : Int))))) rfl (fun hb64 => ?_) (fun hb64 => ?_)
      · have h := ite_t hb64 h
        refine aw_skip ?_
        refine aw_seq ?_
        refine aw_block ?_
        refine aw_seq ?_
        refine aw_reg ?_
        refine at_run tt_ok 5 [(0, (.tree ((.node n1 n2 n3 n4 n5)))), (1, (.i p1)), (5, (.row i0_1 w0_3.length)), (6, (.i w0_2)), (36, (.slc (n5.map AV.tree) n5.length false)), (37, (.i w0_2))] rfl (by kernel_rfl) ?_
        obtain ⟨v65, hv65, h⟩ := bind_some' h
        refine at_one rfl rfl rfl (aop_idx1 (k := .i64) (g := AV.tree) (l := n5) (fu := false) (j := w0_2) (v := v65) tt_ok rfl rfl rfl rfl rfl hv65) ?_
        refine at_run tt_ok 8 [(0, (.tree ((.node n1 n2 n3 n4 n5)))), (1, (.i p1)), (5, (.row i0_1 w0_3.length)), (6, (.i w0_2)), (39, (.tree v65)), (40, (.i p1))] rfl (by kernel_rfl) ?_
        obtain ⟨v66, hc67, h⟩ := bind_some' h
        refine at_op rfl rfl rfl (aop_call (first := []) (caps := []) (xs := [(.tree v65), (.i p1)]) (args' := [(.tree v65), (.i p1)]) (sm := []) (r := [(i0_1, .row 45 1 (w0_3.map (fun l => AV.slc (l.map AV.i) l.length false)) 0)]) rfl (by kernel_rfl) Try.func29 rfl rfl ((IH k63 (by omega)) v65 p1 _ hc67) (by kernel_rfl) (VW.refl _) (permTo [] (by kernel_rfl))) ?_
        rintro _ _ ⟨_, ⟨rfl, rfl⟩, rfl⟩
        refine at_run tt_ok 10 [(0, (.tree ((.node n1 n2 n3 n4 n5)))), (1, (.i p1)), (5, (.row i0_1 w0_3.length)), (6, (.i w0_2)), (7, (.slc (v66.map (fun l => AV.slc (l.map AV.i) l.length false)) v66.length false))] rfl (by kernel_rfl) ?_
        refine at_end rfl ?_
        refine aw_seq ?_
        refine aw_reg ?_
        refine at_run tt_ok 1 [(0, (.tree ((.node n1 n2 n3 n4 n5)))), (1, (.i p1)), (5, (.row i0_1 w0_3.length)), (6, (.i w0_2)), (7, (.slc (v66.map (fun l => AV.slc (l.map AV.i) l.length false)) v66.length false)), (8, (.i 0))] rfl (by kernel_rfl) ?_
        refine at_end rfl ?_
        refine aw_block ?_
        refine aw_loop_ind' (X := Int × (List (List Int)) × Nat) (fun k' x => k' ≤ k63 ∧ ref04_Paths_l1 k' p1 n1 n2 n3 n4 n5 w0_2 v66 x.1 x.2.1 = some r) (fun x => [(0, (.tree ((.node n1 n2 n3 n4 n5)))), (1, (.i p1)), (5, (.row x.2.2 x.2.1.length)), (6, (.i w0_2)), (7, (.slc (v66.map (fun l => AV.slc (l.map AV.i) l.length false)) v66.length false)), (8, (.i x.1))]) (fun x => [(x.2.2, .row 45 1 (x.2.1.map (fun l => AV.slc (l.map AV.i) l.length false)) 0)]) (fun x hx => by cases hx.2) ?_ k63 (0, w0_3, i0_1) ⟨Nat.le_refl _, h⟩ (by kernel_rfl) rfl
        clear h
        rintro k72 ⟨w1_2, w1_3, i1_1⟩ ⟨hlek72, h⟩
        refine aw_seq ?_
        refine aw_seq ?_
        refine aw_reg ?_
        refine at_run tt_ok 4 [(0, (.tree ((.node n1 n2 n3 n4 n5)))), (1, (.i p1)), (5, (.row i1_1 w1_3.length)), (6, (.i w0_2)), (7, (.slc (v66.map (fun l => AV.slc (l.map AV.i) l.length false)) v66.length false)), (8, (.i w1_2)), (45, (.b ((decide (w1_2 < (((v66.length : Nat) : Int)))))))] rfl (by kernel_rfl) ?_
        refine at_end rfl ?_
        refine aw_cond ((decide (w1_2 < (((v66.length : Nat) : Int))))) rfl (fun hb73 => ?_) (fun hb73 => ?_)
        · have h := ite_t hb73 h
          refine aw_skip ?_
          refine aw_seq ?_
          refine aw_block ?_
          refine aw_reg ?_
          refine at_run tt_ok 5 [(0, (.tree ((.node n1 n2 n3 n4 n5)))), (1, (.i p1)), (6, (.i w0_2)), (7, (.slc (v66.map (fun l => AV.slc (l.map AV.i) l.length false)) v66.length false)), (8, (.i w1_2)), (48, (.row i1_1 w1_3.length)), (50, (.slc ((([w0_2] : List Int)).map AV.i) (([w0_2] : List Int)).length true)), (51, (.slc (v66.map (fun l => AV.slc (l.map AV.i) l.length false)) v66.length false)), (52, (.i w1_2))] rfl (by kernel_rfl) ?_
          obtain ⟨v74, hv74, h⟩ := bind_some' h
          refine at_one rfl rfl rfl (aop_idx1 (k := .i64) (g := (fun l => AV.slc (l.map AV.i) l.length false)) (l := v66) (fu := false) (j := w1_2) (v := v74) tt_ok rfl rfl rfl rfl rfl hv74) ?_
          refine at_run tt_ok 7 [(0, (.tree ((.node n1 n2 n3 n4 n5)))), (1, (.i p1)), (6, (.i w0_2)), (7, (.slc (v66.map (fun l => AV.slc (l.map AV.i) l.length false)) v66.length false)), (8, (.i w1_2)), (48, (.row i1_1 w1_3.length)), (50, (.slc ((([w0_2] : List Int)).map AV.i) (([w0_2] : List Int)).length true)), (54, (.slc (v74.map AV.i) v74.length false))] rfl (by kernel_rfl) ?_
          obtain ⟨v75, hv75, h⟩ := bind_some' h
          refine at_one rfl rfl rfl (aop_appC1 (g := AV.i) (l := ([w0_2] : List Int)) (d := v74) (v := v75) (f := false) tt_ok hv75 rfl rfl rfl rfl rfl rfl rfl rfl rfl) ?_
          refine at_run tt_ok 9 [(0, (.tree ((.node n1 n2 n3 n4 n5)))), (1, (.i p1)), (6, (.i w0_2)), (7, (.slc (v66.map (fun l => AV.slc (l.map AV.i) l.length false)) v66.length false)), (8, (.i w1_2)), (48, (.row i1_1 w1_3.length)), (56, (.slc ((([v75] : List (List Int))).map (fun l => AV.slc (l.map AV.i) l.length false)) (([v75] : List (List Int))).length true))] rfl (by kernel_rfl) ?_
          obtain ⟨v76, hv76, h⟩ := bind_some' h
          refine at_op rfl rfl rfl (aop_app1 (g := (fun l => AV.slc (l.map AV.i) l.length false)) (l := w1_3) (d := ([v75] : List (List Int))) (v := v76) (f := true) (id := i1_1) (j := 0) tt_ok hv76 rfl rfl rfl rfl rfl rfl rfl rfl rfl rfl) ?_
          rintro _ _ ⟨o77, rfl, rfl⟩
          refine at_run tt_ok 11 [(0, (.tree ((.node n1 n2 n3 n4 n5)))), (1, (.i p1)), (5, (.row o77 v76.length)), (6, (.i w0_2)), (7, (.slc (v66.map (fun l => AV.slc (l.map AV.i) l.length false)) v66.length false)), (8, (.i w1_2))] rfl (by kernel_rfl) ?_
          refine at_end rfl ?_
          refine aw_reg ?_
          refine at_run tt_ok 3 [(0, (.tree ((.node n1 n2 n3 n4 n5)))), (1, (.i p1)), (5, (.row o77 v76.length)), (6, (.i w0_2)), (7, (.slc (v66.map (fun l => AV.slc (l.map AV.i) l.length false)) v66.length false)), (8, (.i ((IntKind.i64.wrap (w1_2 + 1)))))] rfl (by kernel_rfl) ?_
          refine at_end rfl ?_
          exact ⟨k72, ((IntKind.i64.wrap (w1_2 + 1)), v76, o77), [0], [], by omega, ⟨by omega, h⟩, by kernel_rfl, rfl⟩
        · have h := ite_f (by rw [hb73]; simp) h
          refine aw_exit ?_
          refine aw_reg ?_
          refine at_run tt_ok 3 [(0, (.tree ((.node n1 n2 n3 n4 n5)))), (1, (.i p1)), (5, (.row i1_1 w1_3.length)), (6, (.i ((IntKind.i64.wrap (w0_2 + 1)))))] rfl (by kernel_rfl) ?_
          refine at_end rfl ?_
          exact ⟨k72, ((IntKind.i64.wrap (w0_2 + 1)), w1_3, i1_1), [0], [], by omega, ⟨by omega, h⟩, by kernel_rfl, rfl⟩
      · have h := ite_f (by rw [hb64]; simp) h
        refine aw_exit ?_
        refine aw_seq ?_
        refine aw_reg ?_
        refine at_run tt_ok 2 [(4, (.row i0_1 w0_3.length))] rfl (by kernel_rfl) ?_
        refine at_end rfl ?_
        refine aw_shift (Shift.frz (j := 0) rfl) ?_
        refine aw_shift (Shift.view 4 rfl (View.row (j := 0) rfl (fun h => by rw [List.eq_nil_of_length_eq_zero h]; rfl))) ?_
        refine aw_ret ?_
        obtain rfl := Option.some.inj h
        exact ⟨(.slc (w0_3.map (fun l => AV.slc (l.map AV.i) l.length false)) w0_3.length false), (.slc (w0_3.map (fun l => AV.slc (l.map AV.i) l.length false)) w0_3.length false), _, (res_tmps (by kernel_rfl)), (View.refl _), ⟨_, perm_sel _ [], List.take_sublist 0 _⟩, rfl, rfl⟩
    · have h := ite_f hb6 h
      refine at_setb 13 rfl (nott hb6) ?_
      refine at_run tt_ok 10 [(0, (.tree ((.node n1 n2 n3 n4 n5)))), (1, (.i p1)), (5, (.lit (.slice none 0 0))), (20, (.b ((decide (n1 = p1)))))] rfl (by kernel_rfl) ?_
      refine at_end rfl ?_
      refine aw_cond ((decide (n1 = p1))) rfl (fun hb78 => ?_) (fun hb78 => ?_)
      · have h := ite_t hb78 h
        refine aw_adopt 5 45 1 rfl (fun o79 => ?_)
        refine aw_normal [(0, (.tree ((.node n1 n2 n3 n4 n5)))), (1, (.i p1)), (5, (.row o79 (([] : List (List Int))).length)), (20, (.b ((decide (n1 = p1)))))] (s' := [(o79, .row 45 1 ((([] : List (List Int))).map (fun l => AV.slc (l.map AV.i) l.length false)) 0)]) (by kernel_rfl) rfl ?_
        refine aw_reg ?_
        refine at_run tt_ok 1 [(0, (.tree ((.node n1 n2 n3 n4 n5)))), (1, (.i p1)), (21, (.row o79 (([] : List (List Int))).length))] rfl (by kernel_rfl) ?_
        refine at_one rfl rfl rfl (AOp.view (x := .slc [(.lit (.slice none 0 0))] 1 true) (y := (.slc ((([([] : List Int)] : List (List Int))).map (fun l => AV.slc (l.map AV.i) l.length false)) (([([] : List Int)] : List (List Int))).length true)) (pop_sound tt_ok (by kernel_rfl)) (WL.slc (WL.cons (Weak.nil_slc false) WL.nil))) ?_
        obtain ⟨v129, hv129, h⟩ := bind_some' h
        refine at_op rfl rfl rfl (aop_app1 (g := (fun l => AV.slc (l.map AV.i) l.length false)) (l := ([] : List (List Int))) (d := ([([] : List Int)] : List (List Int))) (v := v129) (f := true) (id := o79) (j := 0) tt_ok hv129 rfl rfl rfl rfl rfl rfl rfl rfl rfl rfl) ?_
        rintro _ _ ⟨o130, rfl, rfl⟩
        refine at_run tt_ok 4 [(0, (.tree ((.node n1 n2 n3 n4 n5)))), (1, (.i p1)), (5, (.row o130 v129.length))] rfl (by kernel_rfl) ?_
        refine at_end rfl ?_
        refine aw_seq ?_
        refine aw_seq ?_
        refine aw_reg ?_
        refine at_run tt_ok 1 [(0, (.tree ((.node n1 n2 n3 n4 n5)))), (1, (.i p1)), (5, (.row o130 v129.length)), (6, (.i 0))] rfl (by kernel_rfl) ?_
        refine at_end rfl ?_
        refine aw_block ?_
        refine aw_loop_ind' (X := Int × (List (List Int)) × Nat) (fun k' x => k' ≤ k0 ∧ ref04_Paths_l2 k' p1 n1 n2 n3 n4 n5 x.1 x.2.1 = some r) (fun x => [(0, (.tree ((.node n1 n2 n3 n4 n5)))), (1, (.i p1)), (5, (.row x.2.2 x.2.1.length)), (6, (.i x.1))]) (fun x => [(x.2.2, .row 45 1 (x.2.1.map (fun l => AV.slc (l.map AV.i) l.length false)) 0)]) (fun x hx => by cases hx.2) ?_ k0 (0, v129, o130) ⟨Nat.le_refl _, h⟩ (by kernel_rfl) rfl
        clear h
        rintro k135 ⟨w2_2, w2_3, i2_1⟩ ⟨hlek135, h⟩
        refine aw_seq ?_
        refine aw_seq ?_
        refine aw_reg ?_
        refine at_run tt_ok 7 [(0, (.tree ((.node n1 n2 n3 n4 n5)))), (1, (.i p1)), (5, (.row i2_1 w2_3.length)), (6, (.i w2_2)), (30, (.b ((decide (w2_2 < (((n5.length : Nat) : Int)))))))] rfl (by kernel_rfl) ?_
        refine at_end rfl ?_
        refine aw_cond ((decide (w2_2 < (((n5.length : Nat) : Int))))) rfl (fun hb136 => ?_) (fun hb136 => ?_)
        · have h := ite_t hb136 h
          refine aw_skip ?_
          refine aw_seq ?_
          refine aw_block ?_
          refine aw_seq ?_
          refine aw_reg ?_
          refine at_run tt_ok 5 [(0, (.tree ((.node n1 n2 n3 n4 n5)))), (1, (.i p1)), (5, (.row i2_1 w2_3.length)), (6, (.i w2_2)), (36, (.slc (n5.map AV.tree) n5.length false)), (37, (.i w2_2))] rfl (by kernel_rfl) ?_
          obtain ⟨v137, hv137, h⟩ := bind_some' h
          refine at_one rfl rfl rfl (aop_idx1 (k := .i64) (g := AV.tree) (l := n5) (fu := false) (j := w2_2) (v := v137) tt_ok rfl rfl rfl rfl rfl hv137) ?_
          refine at_run tt_ok 8 [(0, (.tree ((.node n1 n2 n3 n4 n5)))), (1, (.i p1)), (5, (.row i2_1 w2_3.length)), (6, (.i w2_2)), (39, (.tree v137)), (40, (.i p1))] rfl (by kernel_rfl) ?_
          obtain ⟨v138, hc139, h⟩ := bind_some' h
          refine at_op rfl rfl rfl (aop_call (first := []) (caps := []) (xs := [(.tree v137), (.i p1)]) (args' := [(.tree v137), (.i p1)]) (sm := []) (r := [(i2_1, .row 45 1 (w2_3.map (fun l => AV.slc (l.map AV.i) l.length false)) 0)]) rfl (by kernel_rfl) Try.func29 rfl rfl ((IH k135 (by omega)) v137 p1 _ hc139) (by kernel_rfl) (VW.refl _) (permTo [] (by kernel_rfl))) ?_
          rintro _ _ ⟨_, ⟨rfl, rfl⟩, rfl⟩
          refine at_run tt_ok 10 [(0, (.tree ((.node n1 n2 n3 n4 n5)))), (1, (.i p1)), (5, (.row i2_1 w2_3.length)), (6, (.i w2_2)), (7, (.slc (v138.map (fun l => AV.slc (l.map AV.i) l.length false)) v138.length false))] rfl (by kernel_rfl) ?_
          refine at_end rfl ?_
          refine aw_seq ?_
          refine aw_reg ?_
          refine at_run tt_ok 1 [(0, (.tree ((.node n1 n2 n3 n4 n5)))), (1, (.i p1)), (5, (.row i2_1 w2_3.length)), (6, (.i w2_2)), (7, (.slc (v138.map (fun l => AV.slc (l.map AV.i) l.length false)) v138.length false)), (8, (.i 0))] rfl (by kernel_rfl) ?_
          refine at_end rfl ?_
          refine aw_block ?_
          refine aw_loop_ind' (X := Int × (List (List Int)) × Nat) (fun k' x => k' ≤ k135 ∧ ref04_Paths_l3 k' p1 n1 n2 n3 n4 n5 w2_2 v138 x.1 x.2.1 = some r) (fun x => [(0, (.tree ((.node n1 n2 n3 n4 n5)))), (1, (.i p1)), (5, (.row x.2.2 x.2.1.length)), (6, (.i w2_2)), (7, (.slc (v138.map (fun l => AV.slc (l.map AV.i) l.length false)) v138.length false)), (8, (.i x.1))]) (fun x => [(x.2.2, .row 45 1 (x.2.1.map (fun l => AV.slc (l.map AV.i) l.length false)) 0)]) (fun x hx => by cases hx.2) ?_ k135 (0, w2_3, i2_1) ⟨Nat.le_refl _, h⟩ (by kernel_rfl) rfl
          clear h
          rintro k144 ⟨w3_2, w3_3, i3_1⟩ ⟨hlek144, h⟩
          refine aw_seq ?_
          refine aw_seq ?_
          refine aw_reg ?_
          refine at_run tt_ok 4 [(0, (.tree ((.node n1 n2 n3 n4 n5)))), (1, (.i p1)), (5, (.row i3_1 w3_3.length)), (6, (.i w2_2)), (7, (.slc (v138.map (fun l => AV.slc (l.map AV.i) l.length false)) v138.length false)), (8, (.i w3_2)), (45, (.b ((decide (w3_2 < (((v138.length : Nat) : Int)))))))] rfl (by kernel_rfl) ?_
          refine at_end rfl ?_
          refine aw_cond ((decide (w3_2 < (((v138.length : Nat) : Int))))) rfl (fun hb145 => ?_) (fun hb145 => ?_)
          · have h := ite_t hb145 h
            refine aw_skip ?_
            refine aw_seq ?_
            refine aw_block ?_
            refine aw_reg ?_
            refine at_run tt_ok 5 [(0, (.tree ((.node n1 n2 n3 n4 n5)))), (1, (.i p1)), (6, (.i w2_2)), (7, (.slc (v138.map (fun l => AV.slc (l.map AV.i) l.length false)) v138.length false)), (8, (.i w3_2)), (48, (.row i3_1 w3_3.length)), (50, (.slc ((([w2_2] : List Int)).map AV.i) (([w2_2] : List Int)).length true)), (51, (.slc (v138.map (fun l => AV.slc (l.map AV.i) l.length false)) v138.length false)), (52, (.i w3_2))] rfl (by kernel_rfl) ?_
            obtain ⟨v146, hv146, h⟩ := bind_some' h
            refine at_one rfl rfl rfl (aop_idx1 (k := .i64) (g := (fun l => AV.slc (l.map AV.i) l.length false)) (l := v138) (fu := false) (j := w3_2) (v := v146) tt_ok rfl rfl rfl rfl rfl hv146) ?_
            refine at_run tt_ok 7 [(0, (.tree ((.node n1 n2 n3 n4 n5)))), (1, (.i p1)), (6, (.i w2_2)), (7, (.slc (v138.map (fun l => AV.slc (l.map AV.i) l.length false)) v138.length false)), (8, (.i w3_2)), (48, (.row i3_1 w3_3.length)), (50, (.slc ((([w2_2] : List Int)).map AV.i) (([w2_2] : List Int)).length true)), (54, (.slc (v146.map AV.i) v146.length false))] rfl (by kernel_rfl) ?_
            obtain ⟨v147, hv147, h⟩ := bind_some' h
            refine at_one rfl rfl rfl (aop_appC1 (g := AV.i) (l := ([w2_2] : List Int)) (d := v146) (v := v147) (f := false) tt_ok hv147 rfl rfl rfl rfl rfl rfl rfl rfl rfl) ?_
            refine at_run tt_ok 9 [(0, (.tree ((.node n1 n2 n3 n4 n5)))), (1, (.i p1)), (6, (.i w2_2)), (7, (.slc (v138.map (fun l => AV.slc (l.map AV.i) l.length false)) v138.length false)), (8, (.i w3_2)), (48, (.row i3_1 w3_3.length)), (56, (.slc ((([v147] : List (List Int))).map (fun l => AV.slc (l.map AV.i) l.length false)) (([v147] : List (List Int))).length true))] rfl (by kernel_rfl) ?_
            obtain ⟨v148, hv148, h⟩ := bind_some' h
            refine at_op rfl rfl rfl (aop_app1 (g := (fun l => AV.slc (l.map AV.i) l.length false)) (l := w3_3) (d := ([v147] : List (List Int))) (v := v148) (f := true) (id := i3_1) (j := 0) tt_ok hv148 rfl rfl rfl rfl rfl rfl rfl rfl rfl rfl) ?_
            rintro _ _ ⟨o149, rfl, rfl⟩
            refine at_run tt_ok 11 [(0, (.tree ((.node n1 n2 n3 n4 n5)))), (1, (.i p1)), (5, (.row o149 v148.length)), (6, (.i w2_2)), (7, (.slc (v138.map (fun l => AV.slc (l.map AV.i) l.length false)) v138.length false)), (8, (.i w3_2))] rfl (by kernel_rfl) ?_
            refine at_end rfl ?_
            refine aw_reg ?_
            refine at_run tt_ok 3 [(0, (.tree ((.node n1 n2 n3 n4 n5)))), (1, (.i p1)), (5, (.row o149 v148.length)), (6, (.i w2_2)), (7, (.slc (v138.map (fun l => AV.slc (l.map AV.i) l.length false)) v138.length false)), (8, (.i ((IntKind.i64.wrap (w3_2 + 1)))))] rfl (by kernel_rfl) ?_
            refine at_end rfl ?_
            exact ⟨k144, ((IntKind.i64.wrap (w3_2 + 1)), v148, o149), [0], [], by omega, ⟨by omega, h⟩, by kernel_rfl, rfl⟩
          · have h := ite_f (by rw [hb145]; simp) h
            refine aw_exit ?_
            refine aw_reg ?_
            refine at_run tt_ok 3 [(0, (.tree ((.node n1 n2 n3 n4 n5)))), (1, (.i p1)), (5, (.row i3_1 w3_3.length)), (6, (.i ((IntKind.i64.wrap (w2_2 + 1)))))] rfl (by kernel_rfl) ?_
            refine at_end rfl ?_
            exact ⟨k144, ((IntKind.i64.wrap (w2_2 + 1)), w3_3, i3_1), [0], [], by omega, ⟨by omega, h⟩, by kernel_rfl, rfl⟩
        · have h := ite_f (by rw [hb136]; simp) h
          refine aw_exit ?_
          refine aw_seq ?_
          refine aw_reg ?_
          refine at_run tt_ok 2 [(4, (.row i2_1 w2_3.length))] rfl (by kernel_rfl) ?_
          refine at_end rfl ?_
          refine aw_shift (Shift.frz (j := 0) rfl) ?_
          refine aw_shift (Shift.view 4 rfl (View.row (j := 0) rfl (fun h => by rw [List.eq_nil_of_length_eq_zero h]; rfl))) ?_
          refine aw_ret ?_
          obtain rfl := Option.some.inj h
          exact ⟨(.slc (w2_3.map (fun l => AV.slc (l.map AV.i) l.length false)) w2_3.length false), (.slc (w2_3.map (fun l => AV.slc (l.map AV.i) l.length false)) w2_3.length false), _, (res_tmps (by kernel_rfl)), (View.refl _), ⟨_, perm_sel _ [], List.take_sublist 0 _⟩, rfl, rfl⟩
      · have h := ite_f (by rw [hb78]; simp) h
        refine aw_skip ?_
        refine aw_seq ?_
        refine aw_seq ?_
        refine aw_reg ?_
        refine at_run tt_ok 1 [(0, (.tree ((.node n1 n2 n3 n4 n5)))), (1, (.i p1)), (5, (.lit (.slice none 0 0))), (6, (.i 0))] rfl (by kernel_rfl) ?_
        refine at_end rfl ?_
        refine aw_block ?_
        refine aw_adopt 5 45 1 rfl (fun o151 => ?_)
        refine aw_normal [(0, (.tree ((.node n1 n2 n3 n4 n5)))), (1, (.i p1)), (5, (.row o151 (([] : List (List Int))).length)), (6, (.i 0))] (s' := [(o151, .row 45 1 ((([] : List (List Int))).map (fun l => AV.slc (l.map AV.i) l.length false)) 0)]) (by kernel_rfl) rfl ?_
        refine aw_loop_ind' (X := Int × (List (List Int)) × Nat) (fun k' x => k' ≤ k0 ∧ ref04_Paths_l4 k' p1 n1 n2 n3 n4 n5 x.1 x.2.1 = some r) (fun x => [(0, (.tree ((.node n1 n2 n3 n4 n5)))), (1, (.i p1)), (5, (.row x.2.2 x.2.1.length)), (6, (.i x.1))]) (fun x => [(x.2.2, .row 45 1 (x.2.1.map (fun l => AV.slc (l.map AV.i) l.length false)) 0)]) (fun x hx => by cases hx.2) ?_ k0 (0, ([] : List (List Int)), o151) ⟨Nat.le_refl _, h⟩ (by kernel_rfl) rfl
        clear h
        rintro k156 ⟨w4_2, w4_3, i4_1⟩ ⟨hlek156, h⟩
        refine aw_seq ?_
        refine aw_seq ?_
        refine aw_reg ?_
        refine at_run tt_ok 7 [(0, (.tree ((.node n1 n2 n3 n4 n5)))), (1, (.i p1)), (5, (.row i4_1 w4_3.length)), (6, (.i w4_2)), (30, (.b ((decide (w4_2 < (((n5.length : Nat) : Int)))))))] rfl (by kernel_rfl) ?_
        refine at_end rfl ?_
        refine aw_cond ((decide (w4_2 < (((n5.length : Nat) : Int))))) rfl (fun hb157 => ?_) (fun hb157 => ?_)
        · have h := ite_t hb157 h
          refine aw_skip ?_
          refine aw_seq ?_
          refine aw_block ?_
          refine aw_seq ?_
          refine aw_reg ?_
          refine at_run tt_ok 5 [(0, (.tree ((.node n1 n2 n3 n4 n5)))), (1, (.i p1)), (5, (.row i4_1 w4_3.length)), (6, (.i w4_2)), (36, (.slc (n5.map AV.tree) n5.length false)), (37, (.i w4_2))] rfl (by kernel_rfl) ?_
          obtain ⟨v158, hv158, h⟩ := bind_some' h
          refine at_one rfl rfl rfl (aop_idx1 (k := .i64) (g := AV.tree) (l := n5) (fu := false) (j := w4_2) (v := v158) tt_ok rfl rfl rfl rfl rfl hv158) ?_
          refine at_run tt_ok 8 [(0, (.tree ((.node n1 n2 n3 n4 n5)))), (1, (.i p1)), (5, (.row i4_1 w4_3.length)), (6, (.i w4_2)), (39, (.tree v158)), (40, (.i p1))] rfl (by kernel_rfl) ?_
          obtain ⟨v159, hc160, h⟩ := bind_some' h
          refine at_op rfl rfl rfl (aop_call (first := []) (caps := []) (xs := [(.tree v158), (.i p1)]) (args' := [(.tree v158), (.i p1)]) (sm := []) (r := [(i4_1, .row 45 1 (w4_3.map (fun l => AV.slc (l.map AV.i) l.length false)) 0)]) rfl (by kernel_rfl) Try.func29 rfl rfl ((IH k156 (by omega)) v158 p1 _ hc160) (by kernel_rfl) (VW.refl _) (permTo [] (by kernel_rfl))) ?_
          rintro _ _ ⟨_, ⟨rfl, rfl⟩, rfl⟩
          refine at_run tt_ok 10 [(0, (.tree ((.node n1 n2 n3 n4 n5)))), (1, (.i p1)), (5, (.row i4_1 w4_3.length)), (6, (.i w4_2)), (7, (.slc (v159.map (fun l => AV.slc (l.map AV.i) l.length false)) v159.length false))] rfl (by kernel_rfl) ?_
          refine at_end rfl ?_
          refine aw_seq ?_
          refine aw_reg ?_
          refine at_run tt_ok 1 [(0, (.tree ((.node n1 n2 n3 n4 n5)))), (1, (.i p1)), (5, (.row i4_1 w4_3.length)), (6, (.i w4_2)), (7, (.slc (v159.map (fun l => AV.slc (l.map AV.i) l.length false)) v159.length false)), (8, (.i 0))] rfl (by kernel_rfl) ?_
          refine at_end rfl ?_
          refine aw_block ?_
          refine aw_loop_ind' (X := Int × (List (List Int)) × Nat) (fun k' x => k' ≤ k156 ∧ ref04_Paths_l5 k' p1 n1 n2 n3 n4 n5 w4_2 v159 x.1 x.2.1 = some r) (fun x => [(0, (.tree ((.node n1 n2 n3 n4 n5)))), (1, (.i p1)), (5, (.row x.2.2 x.2.1.length)), (6, (.i w4_2)), (7, (.slc (v159.map (fun l => AV.slc (l.map AV.i) l.length false)) v159.length false)), (8, (.i x.1))]) (fun x => [(x.2.2, .row 45 1 (x.2.1.map (fun l => AV.slc (l.map AV.i) l.length false)) 0)]) (fun x hx => by cases hx.2) ?_ k156 (0, w4_3, i4_1) ⟨Nat.le_refl _, h⟩ (by kernel_rfl) rfl
          clear h
          rintro k165 ⟨w5_2, w5_3, i5_1⟩ ⟨hlek165, h⟩
          refine aw_seq ?_
          refine aw_seq ?_
          refine aw_reg ?_
          refine at_run tt_ok 4 [(0, (.tree ((.node n1 n2 n3 n4 n5)))), (1, (.i p1)), (5, (.row i5_1 w5_3.length)), (6, (.i w4_2)), (7, (.slc (v159.map (fun l => AV.slc (l.map AV.i) l.length false)) v159.length false)), (8, (.i w5_2)), (45, (.b ((decide (w5_2 < (((v159.length : Nat) : Int)))))))] rfl (by kernel_rfl) ?_
          refine at_end rfl ?_
          refine aw_cond ((decide (w5_2 < (((v159.length : Nat) : Int))))) rfl (fun hb166 => ?_) (fun hb166 => ?_)
          · have h := ite_t hb166 h
            refine aw_skip ?_
            refine aw_seq ?_
            refine aw_block ?_
            refine aw_reg ?_
            refine at_run tt_ok 5 [(0, (.tree ((.node n1 n2 n3 n4 n5)))), (1, (.i p1)), (6, (.i w4_2)), (7, (.slc (v159.map (fun l => AV.slc (l.map AV.i) l.length false)) v159.length false)), (8, (.i w5_2)), (48, (.row i5_1 w5_3.length)), (50, (.slc ((([w4_2] : List Int)).map AV.i) (([w4_2] : List Int)).length true)), (51, (.slc (v159.map (fun l => AV.slc (l.map AV.i) l.length false)) v159.length false)), (52, (.i w5_2))] rfl (by kernel_rfl) ?_
            obtain ⟨v167, hv167, h⟩ := bind_some' h
            refine at_one rfl rfl rfl (aop_idx1 (k := .i64) (g := (fun l => AV.slc (l.map AV.i) l.length false)) (l := v159) (fu := false) (j := w5_2) (v := v167) tt_ok rfl rfl rfl rfl rfl hv167) ?_
            refine at_run tt_ok 7 [(0, (.tree ((.node n1 n2 n3 n4 n5)))), (1, (.i p1)), (6, (.i w4_2)), (7, (.slc (v159.map (fun l => AV.slc (l.map AV.i) l.length false)) v159.length false)), (8, (.i w5_2)), (48, (.row i5_1 w5_3.length)), (50, (.slc ((([w4_2] : List Int)).map AV.i) (([w4_2] : List Int)).length true)), (54, (.slc (v167.map AV.i) v167.length false))] rfl (by kernel_rfl) ?_
            obtain ⟨v168, hv168, h⟩ := bind_some' h
            refine at_one rfl rfl rfl (aop_appC1 (g := AV.i) (l := ([w4_2] : List Int)) (d := v167) (v := v168) (f := false) tt_ok hv168 rfl rfl rfl rfl rfl rfl rfl rfl rfl) ?_
            refine at_run tt_ok 9 [(0, (.tree ((.node n1 n2 n3 n4 n5)))), (1, (.i p1)), (6, (.i w4_2)), (7, (.slc (v159.map (fun l => AV.slc (l.map AV.i) l.length false)) v159.length false)), (8, (.i w5_2)), (48, (.row i5_1 w5_3.length)), (56, (.slc ((([v168] : List (List Int))).map (fun l => AV.slc (l.map AV.i) l.length false)) (([v168] : List (List Int))).length true))] rfl (by kernel_rfl) ?_
            obtain ⟨v169, hv169, h⟩ := bind_some' h
            refine at_op rfl rfl rfl (aop_app1 (g := (fun l => AV.slc (l.map AV.i) l.length false)) (l := w5_3) (d := ([v168] : List (List Int))) (v := v169) (f := true) (id := i5_1) (j := 0) tt_ok hv169 rfl rfl rfl rfl rfl rfl rfl rfl rfl rfl) ?_
            rintro _ _ ⟨o170, rfl, rfl⟩
            refine at_run tt_ok 11 [(0, (.tree ((.node n1 n2 n3 n4 n5)))), (1, (.i p1)), (5, (.row o170 v169.length)), (6, (.i w4_2)), (7, (.slc (v159.map (fun l => AV.slc (l.map AV.i) l.length false)) v159.length false)), (8, (.i w5_2))] rfl (by kernel_rfl) ?_
            refine at_end rfl ?_
            refine aw_reg ?_
            refine at_run tt_ok 3 [(0, (.tree ((.node n1 n2 n3 n4 n5)))), (1, (.i p1)), (5, (.row o170 v169.length)), (6, (.i w4_2)), (7, (.slc (v159.map (fun l => AV.slc (l.map AV.i) l.length false)) v159.length false)), (8, (.i ((IntKind.i64.wrap (w5_2 + 1)))))] rfl (by kernel_rfl) ?_
            refine at_end rfl ?_
            exact ⟨k165, ((IntKind.i64.wrap (w5_2 + 1)), v169, o170), [0], [], by omega, ⟨by omega, h⟩, by kernel_rfl, rfl⟩
          · have h := ite_f (by rw [hb166]; simp) h
            refine aw_exit ?_
            refine aw_reg ?_
            refine at_run tt_ok 3 [(0, (.tree ((.node n1 n2 n3 n4 n5)))), (1, (.i p1)), (5, (.row i5_1 w5_3.length)), (6, (.i ((IntKind.i64.wrap (w4_2 + 1)))))] rfl (by kernel_rfl) ?_
            refine at_end rfl ?_
            exact ⟨k165, ((IntKind.i64.wrap (w4_2 + 1)), w5_3, i5_1), [0], [], by omega, ⟨by omega, h⟩, by kernel_rfl, rfl⟩
        · have h := ite_f (by rw [hb157]; simp) h
          refine aw_exit ?_
          refine aw_seq ?_
          refine aw_reg ?_
          refine at_run tt_ok 2 [(4, (.row i4_1 w4_3.length))] rfl (by kernel_rfl) ?_
          refine at_end rfl ?_
          refine aw_shift (Shift.frz (j := 0) rfl) ?_
          refine aw_shift (Shift.view 4 rfl (View.row (j := 0) rfl (fun h => by rw [List.eq_nil_of_length_eq_zero h]; rfl))) ?_
          refine aw_ret ?_
          obtain rfl := Option.some.inj h
          exact ⟨(.slc (w4_3.map (fun l => AV.slc (l.map AV.i) l.length false)) w4_3.length false), (.slc (w4_3.map (fun l => AV.slc (l.map AV.i) l.length false)) w4_3.length false), _, (res_tmps (by kernel_rfl)), (View.refl _), ⟨_, perm_sel _ [], List.take_sublist 0 _⟩, rfl, rfl⟩
theorem ref04_Paths_all (K : Nat) : ref04_Paths_S K := by
  induction K using Nat.strongRecOn with
  | _ K IH => exact ref04_Paths_step K IH
theorem ref04_Paths_ok (K : Nat) : ∀ (p0 : Tr) (p1 : Int) (r : (List (List Int))), ref04_Paths K p0 p1 = some r → ACalls Try.prog 29 [(.tree p0), (.i p1)] [] (fun av s => av = (.slc (r.map (fun l => AV.slc (l.map AV.i) l.length false)) r.length false) ∧ s = []) := (ref04_Paths_all K)
def ref04_With_S (K : Nat) : Prop := ∀ (p0 : Tr) (p1 : List Int) (p2 : Tr) (r : Tr), ref04_With K p0 p1 p2 = some r → ACalls Try.prog 39 [(.tree p0), (.slc (p1.map AV.i) p1.length false), (.tree p2)] [] (fun av s => av = (.tree r) ∧ s = [])
theorem ref04_With_step (K : Nat) (IH : ∀ j, j < K → ref04_With_S j) : ref04_With_S K := by
  intro p0 p1 p2 r h
  cases K with
  | zero => cases h
  | succ k0 =>
  refine acalls_enter Try.func39 rfl rfl ?_
  refine aw_seq ?_
  refine aw_normal [(0, (.tree p0)), (1, (.slc (p1.map AV.i) p1.length false)), (2, (.tree p2))] (s' := []) (by kernel_rfl) rfl ?_
  refine aw_reg ?_
  refine at_run tt_ok 1 [(0, (.tree p0)), (1, (.slc (p1.map AV.i) p1.length false)), (2, (.tree p2))] rfl (by kernel_rfl) ?_
  refine at_end rfl ?_
  refine aw_seq ?_
  refine aw_seq ?_
  refine aw_reg ?_
  refine at_run tt_ok 3 [(0, (.tree p0)), (1, (.slc (p1.map AV.i) p1.length false)), (2, (.tree p2)), (12, (.b ((decide ((((p1.length : Nat) : Int)) = 0)))))] rfl (by kernel_rfl) ?_
  refine at_end rfl ?_
  refine aw_cond ((decide ((((p1.length : Nat) : Int)) = 0))) rfl (fun hb1 => ?_) (fun hb1 => ?_)
  · have h := ite_t hb1 h
    refine aw_seq ?_
    refine aw_reg ?_
    refine at_run tt_ok 2 [(6, (.tree p2))] rfl (by kernel_rfl) ?_
    refine at_end rfl ?_
    refine aw_ret ?_
    obtain rfl := Option.some.inj h
    exact ⟨(.tree p2), (.tree p2), _, (res_tmps (by kernel_rfl)), (View.refl _), ⟨_, perm_sel _ [], List.take_sublist 0 _⟩, rfl, rfl⟩
  · have h := ite_f (by rw [hb1]; simp) h
    refine aw_skip ?_
    refine aw_seq ?_
    refine aw_draw mixed (by kernel_rfl) ?_
    refine j_run tt_ok [0, 4, 8, 12] [12, 8, 4, 0] (by kernel_rfl) ?_
    cases p0 with
    | nil =>
      cases h
    | node n2 n3 n4 n5 n6 =>
      refine j_run tt_ok [1, 2, 3, 5, 6, 7, 9, 10, 11, 13, 14, 15, 16] [16, 15, 14, 13, 11, 10, 9, 7, 6, 5, 3, 2, 1, 12, 8, 4, 0] (by kernel_rfl) ?_
      refine .heavy 17 _ _ rfl (by kernel_rfl) rfl (by kernel_rfl) (aop_box (cs := [(.i n2), (.i n3), (.s n4), (.s n5), (.lit (.slice none 0 0))]) rfl (by kernel_rfl)) ?_ ?_
      · rintro _ _ ⟨o8, rfl, rfl⟩ l hl
        cases hl
      rintro _ _ ⟨o8, rfl, rfl⟩
      refine j_run tt_ok [18] [18, 17, 16, 15, 14, 13, 11, 10, 9, 7, 6, 5, 3, 2, 1, 12, 8, 4, 0] (by kernel_rfl) ?_
      refine .done (by kernel_rfl) ?_
      refine aw_seq ?_
      refine aw_seq ?_
      refine aw_normal [(0, (.tree ((.node n2 n3 n4 n5 n6)))), (1, (.slc (p1.map AV.i) p1.length false)), (2, (.tree p2)), (7, (.ref o8 0))] (s' := [(o8, .row 34 5 [(.i n2), (.i n3), (.s n4), (.s n5), (.lit (.slice none 0 0))] 0)]) (by kernel_rfl) rfl ?_
      refine aw_reg ?_
      refine at_run tt_ok 1 [(0, (.tree ((.node n2 n3 n4 n5 n6)))), (1, (.slc (p1.map AV.i) p1.length false)), (2, (.tree p2)), (7, (.ref o8 0)), (8, (.i 0))] rfl (by kernel_rfl) ?_
      refine at_end rfl ?_
      refine aw_block ?_
      refine aw_adoptCell (j := 0) 4 25 1 rfl rfl (fun o11 => ?_)
      refine aw_normal [(0, (.tree ((.node n2 n3 n4 n5 n6)))), (1, (.slc (p1.map AV.i) p1.length false)), (2, (.tree p2)), (7, (.ref o8 0)), (8, (.i 0))] (s' := [(o11, .row 25 1 ((([] : List Tr)).map AV.tree) 0), (o8, .row 34 5 [(.i n2), (.i n3), (.s n4), (.s n5), (.row o11 (([] : List Tr)).length)] 0)]) (by kernel_rfl) rfl ?_
      refine aw_loop_ind' (X := Int × (List Tr) × Nat) (fun k' x => k' ≤ k0 ∧ ref04_With_l0 k' p1 p2 n2 n3 n4 n5 n6 x.1 x.2.1 = some r) (fun x => [(0, (.tree ((.node n2 n3 n4 n5 n6)))), (1, (.slc (p1.map AV.i) p1.length false)), (2, (.tree p2)), (7, (.ref o8 0)), (8, (.i x.1))]) (fun x => [(x.2.2, .row 25 1 (x.2.1.map AV.tree) 0), (o8, .row 34 5 [(.i n2), (.i n3), (.s n4), (.s n5), (.row x.2.2 x.2.1.length)] 0)]) (fun x hx => by cases hx.2) ?_ k0 (0, ([] : List Tr), o11) ⟨Nat.le_refl _, h⟩ (by kernel_rfl) rfl
      clear h
      rintro k15 ⟨w0_2, w0_3, i0_1⟩ ⟨hlek15, h⟩
      refine aw_seq ?_
      refine aw_seq ?_
      refine aw_reg ?_
      refine at_run tt_ok 7 [(0, (.tree ((.node n2 n3 n4 n5 n6)))), (1, (.slc (p1.map AV.i) p1.length false)), (2, (.tree p2)), (7, (.ref o8 0)), (8, (.i w0_2)), (38, (.b ((decide (w0_2 < (((n6.length : Nat) : Int)))))))] rfl (by kernel_rfl) ?_
      refine at_end rfl ?_
      refine aw_cond ((decide (w0_2 < (((n6.length : Nat) : Int))))) rfl (fun hb16 => ?_) (fun hb16 => ?_)
      · have h := ite_t hb16 h
        refine aw_skip ?_
        refine aw_seq ?_
        refine aw_block ?_
        refine aw_seq ?_
        refine aw_reg ?_
        refine at_run tt_ok 5 [(0, (.tree ((.node n2 n3 n4 n5 n6)))), (1, (.slc (p1.map AV.i) p1.length false)), (2, (.tree p2)), (7, (.ref o8 0)), (8, (.i w0_2)), (44, (.slc (n6.map AV.tree) n6.length false)), (45, (.i w0_2))] rfl (by kernel_rfl) ?_
        obtain ⟨v17, hv17, h⟩ := bind_some' h
        refine at_one rfl rfl rfl (aop_idx1 (k := .i64) (g := AV.tree) (l := n6) (fu := false) (j := w0_2) (v := v17) tt_ok rfl rfl rfl rfl rfl hv17) ?_
        refine at_run tt_ok 8 [(0, (.tree ((.node n2 n3 n4 n5 n6)))), (1, (.slc (p1.map AV.i) p1.length false)), (2, (.tree p2)), (7, (.ref o8 0)), (8, (.i w0_2)), (9, (.tree v17))] rfl (by kernel_rfl) ?_
        refine at_end rfl ?_
        refine aw_seq ?_
        refine aw_seq ?_
        refine aw_reg ?_
        refine at_run tt_ok 2 [(0, (.tree ((.node n2 n3 n4 n5 n6)))), (1, (.slc (p1.map AV.i) p1.length false)), (2, (.tree p2)), (7, (.ref o8 0)), (8, (.i w0_2)), (9, (.tree v17)), (48, (.i w0_2)), (49, (.slc (p1.map AV.i) p1.length false))] rfl (by kernel_rfl) ?_
        obtain ⟨v18, hv18, h⟩ := bind_some' h
        refine at_one rfl rfl rfl (aop_idx1 (k := .i64) (g := AV.i) (l := p1) (fu := false) (j := 0) (v := v18) tt_ok rfl rfl rfl rfl rfl hv18) ?_
        refine at_run tt_ok 5 [(0, (.tree ((.node n2 n3 n4 n5 n6)))), (1, (.slc (p1.map AV.i) p1.length false)), (2, (.tree p2)), (7, (.ref o8 0)), (8, (.i w0_2)), (9, (.tree v17)), (52, (.b ((decide (w0_2 = v18)))))] rfl (by kernel_rfl) ?_
        refine at_end rfl ?_
        refine aw_cond ((decide (w0_2 = v18))) rfl (fun hb19 => ?_) (fun hb19 => ?_)
        · have h := ite_t hb19 h
          refine aw_reg ?_
          refine at_run tt_ok 2 [(0, (.tree ((.node n2 n3 n4 n5 n6)))), (1, (.slc (p1.map AV.i) p1.length false)), (2, (.tree p2)), (7, (.ref o8 0)), (8, (.i w0_2)), (53, (.tree v17)), (54, (.slc (p1.map AV.i) p1.length false))] rfl (by kernel_rfl) ?_
          obtain ⟨v20, hv20, h⟩ := bind_some' h
          refine at_one rfl rfl rfl (aop_sub1 (g := AV.i) (l := p1) (fu := false) (a1 := 1) (b1 := ((p1.length : Nat) : Int)) (v := v20) tt_ok hv20 rfl rfl rfl rfl rfl rfl) ?_
          refine at_run tt_ok 4 [(0, (.tree ((.node n2 n3 n4 n5 n6)))), (1, (.slc (p1.map AV.i) p1.length false)), (2, (.tree p2)), (7, (.ref o8 0)), (8, (.i w0_2)), (53, (.tree v17)), (55, (.slc (v20.map AV.i) v20.length false)), (56, (.tree p2))] rfl (by kernel_rfl) ?_
          obtain ⟨v21, hc22, h⟩ := bind_some' h
          refine at_op rfl rfl rfl (aop_call (first := []) (caps := []) (xs := [(.tree v17), (.slc (v20.map AV.i) v20.length false), (.tree p2)]) (args' := [(.tree v17), (.slc (v20.map AV.i) v20.length false), (.tree p2)]) (sm := []) (r := [(i0_1, .row 25 1 (w0_3.map AV.tree) 0), (o8, .row 34 5 [(.i n2), (.i n3), (.s n4), (.s n5), (.row i0_1 w0_3.length)] 0)]) rfl (by kernel_rfl) Try.func39 rfl rfl ((IH k15 (by omega)) v17 v20 p2 _ hc22) (by kernel_rfl) (VW.refl _) (permTo [] (by kernel_rfl))) ?_
          rintro _ _ ⟨_, ⟨rfl, rfl⟩, rfl⟩
          refine at_run tt_ok 6 [(0, (.tree ((.node n2 n3 n4 n5 n6)))), (1, (.slc (p1.map AV.i) p1.length false)), (2, (.tree p2)), (7, (.ref o8 0)), (8, (.i w0_2)), (9, (.tree v21))] rfl (by kernel_rfl) ?_
          refine at_end rfl ?_
          refine aw_reg ?_
          refine at_run tt_ok 4 [(0, (.tree ((.node n2 n3 n4 n5 n6)))), (1, (.slc (p1.map AV.i) p1.length false)), (2, (.tree p2)), (7, (.ref o8 0)), (8, (.i w0_2)), (9, (.tree v21)), (58, (.ref o8 0)), (61, (.ref o8 4))] rfl (by kernel_rfl) ?_
          refine at_one rfl rfl rfl (aop_loadRef (j := 1) (off := 4) (av := (.row i0_1 w0_3.length)) tt_ok rfl rfl rfl rfl) ?_
          refine at_run tt_ok 7 [(0, (.tree ((.node n2 n3 n4 n5 n6)))), (1, (.slc (p1.map AV.i) p1.length false)), (2, (.tree p2)), (7, (.ref o8 0)), (8, (.i w0_2)), (58, (.ref o8 0)), (62, (.row i0_1 w0_3.length)), (64, (.slc ((([v21] : List Tr)).map AV.tree) (([v21] : List Tr)).length true))] rfl (by kernel_rfl) ?_
          obtain ⟨v23, hv23, h⟩ := bind_some' h
          refine at_op rfl rfl rfl (aop_app1 (g := AV.tree) (l := w0_3) (d := ([v21] : List Tr)) (v := v23) (f := true) (id := i0_1) (j := 0) tt_ok hv23 rfl rfl rfl rfl rfl rfl rfl rfl rfl rfl) ?_
          rintro _ _ ⟨o24, rfl, rfl⟩
          refine at_run tt_ok 10 [(0, (.tree ((.node n2 n3 n4 n5 n6)))), (1, (.slc (p1.map AV.i) p1.length false)), (2, (.tree p2)), (7, (.ref o8 0)), (8, (.i w0_2)), (65, (.row o24 v23.length)), (67, (.ref o8 4))] rfl (by kernel_rfl) ?_
          refine at_one rfl rfl rfl (aop_storeRef (id := o8) (off := 4) (j := 1) (ds := [(.row o24 v23.length)]) tt_ok rfl rfl rfl rfl rfl) ?_
          refine at_end rfl ?_
          refine aw_normal [(0, (.tree ((.node n2 n3 n4 n5 n6)))), (1, (.slc (p1.map AV.i) p1.length false)), (2, (.tree p2)), (7, (.ref o8 0)), (8, (.i w0_2))] (s' := [(o24, .row 25 1 (v23.map AV.tree) 0), (o8, .row 34 5 [(.i n2), (.i n3), (.s n4), (.s n5), (.row o24 v23.length)] 0)]) (by kernel_rfl) rfl ?_
          refine aw_reg ?_
          refine at_run tt_ok 3 [(0, (.tree ((.node n2 n3 n4 n5 n6)))), (1, (.slc (p1.map AV.i) p1.length false)), (2, (.tree p2)), (7, (.ref o8 0)), (8, (.i ((IntKind.i64.wrap (w0_2 + 1)))))] rfl (by kernel_rfl) ?_
          refine at_end rfl ?_
          exact ⟨k15, ((IntKind.i64.wrap (w0_2 + 1)), v23, o24), [0, 0], [], by omega, ⟨by omega, h⟩, by kernel_rfl, rfl⟩
        · have h := ite_f (by rw [hb19]; simp) h
          refine aw_skip ?_
          refine aw_reg ?_
          refine at_run tt_ok 4 [(0, (.tree ((.node n2 n3 n4 n5 n6)))), (1, (.slc (p1.map AV.i) p1.length false)), (2, (.tree p2)), (7, (.ref o8 0)), (8, (.i w0_2)), (9, (.tree v17)), (58, (.ref o8 0)), (61, (.ref o8 4))] rfl (by kernel_rfl) ?_
          refine at_one rfl rfl rfl (aop_loadRef (j := 1) (off := 4) (av := (.row i0_1 w0_3.length)) tt_ok rfl rfl rfl rfl) ?_
          refine at_run tt_ok 7 [(0, (.tree ((.node n2 n3 n4 n5 n6)))), (1, (.slc (p1.map AV.i) p1.length false)), (2, (.tree p2)), (7, (.ref o8 0)), (8, (.i w0_2)), (58, (.ref o8 0)), (62, (.row i0_1 w0_3.length)), (64, (.slc ((([v17] : List Tr)).map AV.tree) (([v17] : List Tr)).length true))] rfl (by kernel_rfl) ?_
          obtain ⟨v25, hv25, h⟩ := bind_some' h
          refine at_op rfl rfl rfl (aop_app1 (g := AV.tree) (l := w0_3) (d := ([v17] : List Tr)) (v := v25) (f := true) (id := i0_1) (j := 0) tt_ok hv25 rfl rfl rfl rfl rfl rfl rfl rfl rfl rfl) ?_
          rintro _ _ ⟨o26, rfl, rfl⟩
          refine at_run tt_ok 10 [(0, (.tree ((.node n2 n3 n4 n5 n6)))), (1, (.slc (p1.map AV.i) p1.length false)), (2, (.tree p2)), (7, (.ref o8 0)), (8, (.i w0_2)), (65, (.row o26 v25.length)), (67, (.ref o8 4))] rfl (by kernel_rfl) ?_
          refine at_one rfl rfl rfl (aop_storeRef (id := o8) (off := 4) (j := 1) (ds := [(.row o26 v25.length)]) tt_ok rfl rfl rfl rfl rfl) ?_
          refine at_end rfl ?_
          refine aw_normal [(0, (.tree ((.node n2 n3 n4 n5 n6)))), (1, (.slc (p1.map AV.i) p1.length false)), (2, (.tree p2)), (7, (.ref o8 0)), (8, (.i w0_2))] (s' := [(o26, .row 25 1 (v25.map AV.tree) 0), (o8, .row 34 5 [(.i n2), (.i n3), (.s n4), (.s n5), (.row o26 v25.length)] 0)]) (by kernel_rfl) rfl ?_
          refine aw_reg ?_
          refine at_run tt_ok 3 [(0, (.tree ((.node n2 n3 n4 n5 n6)))), (1, (.slc (p1.map AV.i) p1.length false)), (2, (.tree p2)), (7, (.ref o8 0)), (8, (.i ((IntKind.i64.wrap (w0_2 + 1)))))] rfl (by kernel_rfl) ?_
          refine at_end rfl ?_
          exact ⟨k15, ((IntKind.i64.wrap (w0_2 + 1)), v25, o26), [0, 0], [], by omega, ⟨by omega, h⟩, by kernel_rfl, rfl⟩
      · have h := ite_f (by rw [hb16]; simp) h
        refine aw_exit ?_
        refine aw_seq ?_
        refine aw_reg ?_
        refine at_run tt_ok 2 [(6, (.ref o8 0))] rfl (by kernel_rfl) ?_
        refine at_end rfl ?_
        refine aw_shift (Shift.frz (j := 0) rfl) ?_
        refine aw_shift (Shift.cell (j := 1) 4 rfl rfl (View.row (j := 0) rfl (fun h => by rw [List.eq_nil_of_length_eq_zero h]; rfl))) ?_
        refine aw_shift (Shift.frz (j := 1) rfl) ?_
        refine aw_ret ?_
        obtain rfl := Option.some.inj h
        exact ⟨(.ref o8 0), (.tree ((.node n2 n3 n4 n5 w0_3))), _, (res_tmps (by kernel_rfl)), ((View.ref (j := 1) rfl).trans (View.of_weak (Weak.node_tree _ _ _ _ _))), ⟨_, perm_sel _ [], List.take_sublist 0 _⟩, rfl, rfl⟩
theorem ref04_With_all (K : Nat) : ref04_With_S K := by
  induction K using Nat.strongRecOn with
  | _ K IH => exact ref04_With_step K IH
theorem ref04_With_ok (K : Nat) : ∀ (p0 : Tr) (p1 : List Int) (p2 : Tr) (r : Tr), ref04_With K p0 p1 p2 = some r → ACalls Try.prog 39 [(.tree p0), (.slc (p1.map AV.i) p1.length false), (.tree p2)] [] (fun av s => av = (.tree r) ∧ s = []) := (ref04_With_all K)
theorem ref04_Put_ok (K : Nat) : ∀ (p0 : Tr) (p1 : List Int) (p2 : Tr) (r : Tr × Int), ref04_Put K p0 p1 p2 = some r → ACalls Try.prog 26 [(.tree p0), (.slc (p1.map AV.i) p1.length false), (.tree p2)] [] (fun av s => av = (.tup [(.tree r.1), (.i r.2)]) ∧ s = []) := by
  intro p0 p1 p2 r h
  refine acalls_enter Try.func26 rfl rfl ?_
  refine aw_seq ?_
  refine aw_normal [(0, (.tree p0)), (1, (.slc (p1.map AV.i) p1.length false)), (2, (.tree p2))] (s' := []) (by kernel_rfl) rfl ?_
  refine aw_reg ?_
  refine at_run tt_ok 2 [(0, (.tree p0)), (1, (.slc (p1.map AV.i) p1.length false)), (2, (.tree p2))] rfl (by kernel_rfl) ?_
  refine at_end rfl ?_
  refine aw_seq ?_
  refine aw_seq ?_
  refine aw_reg ?_
  refine at_run tt_ok 2 [(0, (.tree p0)), (1, (.slc (p1.map AV.i) p1.length false)), (2, (.tree p2)), (11, (.tree p0)), (12, (.slc (p1.map AV.i) p1.length false))] rfl (by kernel_rfl) ?_
  obtain ⟨⟨v1, v2⟩, hc3, h⟩ := bind_some' h
  refine at_op rfl rfl rfl (aop_call (first := []) (caps := []) (xs := [(.tree p0), (.slc (p1.map AV.i) p1.length false)]) (args' := [(.tree p0), (.slc (p1.map AV.i) p1.length false)]) (sm := []) (r := []) rfl (by kernel_rfl) Try.func24 rfl rfl (ref04_At_ok K p0 p1 _ hc3) (by kernel_rfl) (VW.refl _) (permTo [] (by kernel_rfl))) ?_
  rintro _ _ ⟨_, ⟨rfl, rfl⟩, rfl⟩
  refine at_run tt_ok 8 [(0, (.tree p0)), (1, (.slc (p1.map AV.i) p1.length false)), (2, (.tree p2)), (9, (.i v2))] rfl (by kernel_rfl) ?_
  refine at_end rfl ?_
  refine aw_seq ?_
  refine aw_reg ?_
  refine at_run tt_ok 2 [(0, (.tree p0)), (1, (.slc (p1.map AV.i) p1.length false)), (2, (.tree p2)), (9, (.i v2)), (17, (.b ((!decide (v2 = 0)))))] rfl (by kernel_rfl) ?_
  refine at_end rfl ?_
  refine aw_cond ((!decide (v2 = 0))) rfl (fun hb4 => ?_) (fun hb4 => ?_)
  · have h := ite_t hb4 h
    refine aw_seq ?_
    refine aw_reg ?_
    refine at_run tt_ok 3 [(6, .nil), (7, (.i v2))] rfl (by kernel_rfl) ?_
    refine at_end rfl ?_
    refine aw_ret ?_
    obtain rfl := Option.some.inj h
    exact ⟨(.tup [.nil, (.i v2)]), (.tup [(.tree (.nil)), (.i v2)]), _, (res_tmps (by kernel_rfl)), (View.tup (VW.cons (View.of_weak Weak.nil_tree) (VW.same VW.nil))), ⟨_, perm_sel _ [], List.take_sublist 0 _⟩, rfl, rfl⟩
  · have h := ite_f (by rw [hb4]; simp) h
    refine aw_skip ?_
    refine aw_seq ?_
    refine aw_seq ?_
    refine aw_reg ?_
    refine at_run tt_ok 1 [(0, (.tree p0)), (1, (.slc (p1.map AV.i) p1.length false)), (2, (.tree p2)), (19, (.tree p2))] rfl (by kernel_rfl) ?_
    cases p2 with
    | nil =>
      refine at_run tt_ok 2 [(0, (.tree p0)), (1, (.slc (p1.map AV.i) p1.length false)), (2, (.tree (.nil))), (20, (.b true))] rfl (by kernel_rfl) ?_
      refine at_end rfl ?_
      refine aw_cond true rfl (fun _ => ?_) (fun h => by cases h)
      refine aw_seq ?_
      refine aw_reg ?_
      refine at_run tt_ok 2 [(6, .nil), (7, (.i 1))] rfl (by kernel_rfl) ?_
      refine at_end rfl ?_
      refine aw_ret ?_
      obtain rfl := Option.some.inj h
      exact ⟨(.tup [.nil, (.i 1)]), (.tup [(.tree (.nil)), (.i 1)]), _, (res_tmps (by kernel_rfl)), (View.tup (VW.cons (View.of_weak Weak.nil_tree) (VW.same VW.nil))), ⟨_, perm_sel _ [], List.take_sublist 0 _⟩, rfl, rfl⟩
    | node n5 n6 n7 n8 n9 =>
      refine at_run tt_ok 2 [(0, (.tree p0)), (1, (.slc (p1.map AV.i) p1.length false)), (2, (.tree ((.node n5 n6 n7 n8 n9)))), (20, (.b false))] rfl (by kernel_rfl) ?_
      refine at_end rfl ?_
      refine aw_cond false rfl (fun h => by cases h) (fun _ => ?_)
      refine aw_skip ?_
      refine aw_seq ?_
      refine aw_reg ?_
      refine at_run tt_ok 3 [(21, (.tree p0)), (22, (.slc (p1.map AV.i) p1.length false)), (23, (.tree ((.node n5 n6 n7 n8 n9))))] rfl (by kernel_rfl) ?_
      obtain ⟨v10, hc11, h⟩ := bind_some' h
      refine at_op rfl rfl rfl (aop_call (first := []) (caps := []) (xs := [(.tree p0), (.slc (p1.map AV.i) p1.length false), (.tree ((.node n5 n6 n7 n8 n9)))]) (args' := [(.tree p0), (.slc (p1.map AV.i) p1.length false), (.tree ((.node n5 n6 n7 n8 n9)))]) (sm := []) (r := []) rfl (by kernel_rfl) Try.func39 rfl rfl (ref04_With_ok K p0 p1 ((.node n5 n6 n7 n8 n9)) _ hc11) (by kernel_rfl) (VW.refl _) (permTo [] (by kernel_rfl))) ?_
      rintro _ _ ⟨_, ⟨rfl, rfl⟩, rfl⟩
      refine at_run tt_ok 6 [(6, (.tree v10)), (7, (.i 0))] rfl (by kernel_rfl) ?_
      refine at_end rfl ?_
      refine aw_ret ?_
      obtain rfl := Option.some.inj h
      exact ⟨(.tup [(.tree v10), (.i 0)]), (.tup [(.tree v10), (.i 0)]), _, (res_tmps (by kernel_rfl)), (View.refl _), ⟨_, perm_sel _ [], List.take_sublist 0 _⟩, rfl, rfl⟩
theorem ref04_SamePaths_ok (K : Nat) : ∀ (p0 : List (List Int)) (p1 : List (List Int)) (r : Bool), ref04_SamePaths K p0 p1 = some r → ACalls Try.prog 27 [(.slc (p0.map (fun l => AV.slc (l.map AV.i) l.length false)) p0.length false), (.slc (p1.map (fun l => AV.slc (l.map AV.i) l.length false)) p1.length false)] [] (fun av s => av = (.b r) ∧ s = []) := by
  intro p0 p1 r h
  refine acalls_enter Try.func27 rfl rfl ?_
  refine aw_seq ?_
  refine aw_normal [(0, (.slc (p0.map (fun l => AV.slc (l.map AV.i) l.length false)) p0.length false)), (1, (.slc (p1.map (fun l => AV.slc (l.map AV.i) l.length false)) p1.length false))] (s' := []) (by kernel_rfl) rfl ?_
  refine aw_reg ?_
  refine at_run tt_ok 1 [(0, (.slc (p0.map (fun l => AV.slc (l.map AV.i) l.length false)) p0.length false)), (1, (.slc (p1.map (fun l => AV.slc (l.map AV.i) l.length false)) p1.length false))] rfl (by kernel_rfl) ?_
  refine at_end rfl ?_
  refine aw_seq ?_
  refine aw_seq ?_
  refine aw_reg ?_
  refine at_run tt_ok 5 [(0, (.slc (p0.map (fun l => AV.slc (l.map AV.i) l.length false)) p0.length false)), (1, (.slc (p1.map (fun l => AV.slc (l.map AV.i) l.length false)) p1.length false)), (10, (.b ((!decide ((((p0.length : Nat) : Int)) = (((p1.length : Nat) : Int)))))))] rfl (by kernel_rfl) ?_
  refine at_end rfl ?_
  refine aw_cond ((!decide ((((p0.length : Nat) : Int)) = (((p1.length : Nat) : Int))))) rfl (fun hb1 => ?_) (fun hb1 => ?_)
  · have h := ite_t hb1 h
    refine aw_seq ?_
    refine aw_reg ?_
    refine at_run tt_ok 1 [(4, (.b false))] rfl (by kernel_rfl) ?_
    refine at_end rfl ?_
    refine aw_ret ?_
    obtain rfl := Option.some.inj h
    exact ⟨(.b false), (.b false), _, (res_tmps (by kernel_rfl)), (View.refl _), ⟨_, perm_sel _ [], List.take_sublist 0 _⟩, rfl, rfl⟩
  · have h := ite_f (by rw [hb1]; simp) h
    refine aw_skip ?_
    refine aw_seq ?_
    refine aw_seq ?_
    refine aw_reg ?_
    refine at_run tt_ok 1 [(0, (.slc (p0.map (fun l => AV.slc (l.map AV.i) l.length false)) p0.length false)), (1, (.slc (p1.map (fun l => AV.slc (l.map AV.i) l.length false)) p1.length false)), (5, (.i 0))] rfl (by kernel_rfl) ?_
    refine at_end rfl ?_
    refine aw_block ?_
    refine aw_loop_ind' (X := Int) (fun k' x => k' ≤ K ∧ ref04_SamePaths_l0 k' p0 p1 x = some r) (fun x => [(0, (.slc (p0.map (fun l => AV.slc (l.map AV.i) l.length false)) p0.length false)), (1, (.slc (p1.map (fun l => AV.slc (l.map AV.i) l.length false)) p1.length false)), (5, (.i x))]) (fun x => []) (fun x hx => by cases hx.2) ?_ K 0 ⟨Nat.le_refl _, h⟩ (by kernel_rfl) rfl
    clear h
    rintro k4 w0_1 ⟨hlek4, h⟩
    refine aw_seq ?_
    refine aw_seq ?_
    refine aw_reg ?_
    refine at_run tt_ok 4 [(0, (.slc (p0.map (fun l => AV.slc (l.map AV.i) l.length false)) p0.length false)), (1, (.slc (p1.map (fun l => AV.slc (l.map AV.i) l.length false)) p1.length false)), (5, (.i w0_1)), (14, (.b ((decide (w0_1 < (((p0.length : Nat) : Int)))))))] rfl (by kernel_rfl) ?_
    refine at_end rfl ?_
    refine aw_cond ((decide (w0_1 < (((p0.length : Nat) : Int))))) rfl (fun hb5 => ?_) (fun hb5 => ?_)
    · have h := ite_t hb5 h
      refine aw_skip ?_
      refine aw_seq ?_
      refine aw_block ?_
      refine aw_seq ?_
      refine aw_draw mixed (by kernel_rfl) ?_
      refine j_run tt_ok [0, 1, 4, 5] [5, 4, 1, 0] (by kernel_rfl) ?_
      obtain ⟨v6, hv6, h⟩ := bind_some' h
      refine j_light0 2 rfl (by kernel_rfl) rfl (by kernel_rfl) (fun s => (aop_idx1 (k := .i64) (g := (fun l => AV.slc (l.map AV.i) l.length false)) (l := p0) (fu := false) (j := w0_1) (v := v6) tt_ok rfl rfl rfl (by kernel_rfl) (by kernel_rfl) hv6)) ?_
      refine j_run tt_ok [3] [3, 2, 5, 4, 1, 0] (by kernel_rfl) ?_
      obtain ⟨v7, hv7, h⟩ := bind_some' h
      refine j_light0 6 rfl (by kernel_rfl) rfl (by kernel_rfl) (fun s => (aop_idx1 (k := .i64) (g := (fun l => AV.slc (l.map AV.i) l.length false)) (l := p1) (fu := false) (j := w0_1) (v := v7) tt_ok rfl rfl rfl (by kernel_rfl) (by kernel_rfl) hv7)) ?_
      refine j_run tt_ok [7] [7, 6, 3, 2, 5, 4, 1, 0] (by kernel_rfl) ?_
      obtain ⟨v10, hc11, h⟩ := bind_some' h
      refine .heavy 8 _ _ rfl (by kernel_rfl) rfl (by kernel_rfl) (aop_call (first := []) (caps := []) (xs := [(.slc (v6.map AV.i) v6.length false), (.slc (v7.map AV.i) v7.length false)]) (args' := [(.slc (v6.map AV.i) v6.length false), (.slc (v7.map AV.i) v7.length false)]) (sm := []) (r := []) rfl (by kernel_rfl) Try.func30 rfl rfl (ref04_SamePath_ok k4 v6 v7 _ hc11) (by kernel_rfl) (VW.refl _) (permTo [] (by kernel_rfl))) ?_ ?_
      · rintro _ _ ⟨_, ⟨rfl, rfl⟩, rfl⟩ l hl
        cases hl
      rintro _ _ ⟨_, ⟨rfl, rfl⟩, rfl⟩
      refine j_run tt_ok [9] [9, 8, 7, 6, 3, 2, 5, 4, 1, 0] (by kernel_rfl) ?_
      refine .done (by kernel_rfl) ?_
      refine aw_normal [(0, (.slc (p0.map (fun l => AV.slc (l.map AV.i) l.length false)) p0.length false)), (1, (.slc (p1.map (fun l => AV.slc (l.map AV.i) l.length false)) p1.length false)), (5, (.i w0_1)), (26, (.b ((!v10))))] (s' := []) (by kernel_rfl) rfl ?_
      refine aw_cond ((!v10)) rfl (fun hb12 => ?_) (fun hb12 => ?_)
      · have h := ite_t hb12 h
        refine aw_seq ?_
        refine aw_reg ?_
        refine at_run tt_ok 1 [(4, (.b false))] rfl (by kernel_rfl) ?_
        refine at_end rfl ?_
        refine aw_ret ?_
        obtain rfl := Option.some.inj h
        exact ⟨(.b false), (.b false), _, (res_tmps (by kernel_rfl)), (View.refl _), ⟨_, perm_sel _ [], List.take_sublist 0 _⟩, rfl, rfl⟩
      · have h := ite_f (by rw [hb12]; simp) h
        refine aw_skip ?_
        refine aw_reg ?_
        refine at_run tt_ok 3 [(0, (.slc (p0.map (fun l => AV.slc (l.map AV.i) l.length false)) p0.length false)), (1, (.slc (p1.map (fun l => AV.slc (l.map AV.i) l.length false)) p1.length false)), (5, (.i ((IntKind.i64.wrap (w0_1 + 1)))))] rfl (by kernel_rfl) ?_
        refine at_end rfl ?_
        exact ⟨k4, (IntKind.i64.wrap (w0_1 + 1)), [], [], by omega, ⟨by omega, h⟩, by kernel_rfl, rfl⟩
    · have h := ite_f (by rw [hb5]; simp) h
      refine aw_exit ?_
      refine aw_seq ?_
      refine aw_reg ?_
      refine at_run tt_ok 1 [(4, (.b true))] rfl (by kernel_rfl) ?_
      refine at_end rfl ?_
      refine aw_ret ?_
      obtain rfl := Option.some.inj h
      exact ⟨(.b true), (.b true), _, (res_tmps (by kernel_rfl)), (View.refl _), ⟨_, perm_sel _ [], List.take_sublist 0 _⟩, rfl, rfl⟩
theorem law04_ArenaPuts_ok (K : Nat) : ∀ (p0 : List S_Cell) (p1 : List Int) (p2 : List S_Cell) (r : Bool), law04_ArenaPuts K p0 p1 p2 = some r → ACalls Try.prog 6 [(.agg [(.slc (p0.flatMap S_Cell.cs) p0.length false)]), (.slc (p1.map AV.i) p1.length false), (.agg [(.slc (p2.flatMap S_Cell.cs) p2.length false)])] [] (fun av s => av = (.b r) ∧ s = []) := by
  intro p0 p1 p2 r h
  refine acalls_enter Try.func6 rfl rfl ?_
  refine aw_seq ?_
  refine aw_normal [(0, (.agg [(.slc (p0.flatMap S_Cell.cs) p0.length false)])), (1, (.slc (p1.map AV.i) p1.length false)), (2, (.agg [(.slc (p2.flatMap S_Cell.cs) p2.length false)]))] (s' := []) (by kernel_rfl) rfl ?_
  refine aw_reg ?_
  refine at_run tt_ok 3 [(1, (.slc (p1.map AV.i) p1.length false)), (3, (.ptr [(.slc (p0.flatMap S_Cell.cs) p0.length false)])), (5, (.ptr [(.slc (p2.flatMap S_Cell.cs) p2.length false)]))] rfl (by kernel_rfl) ?_
  refine at_end rfl ?_
  refine aw_seq ?_
  refine aw_reg ?_
  refine at_run tt_ok 1 [(1, (.slc (p1.map AV.i) p1.length false)), (3, (.ptr [(.slc (p0.flatMap S_Cell.cs) p0.length false)])), (5, (.ptr [(.slc (p2.flatMap S_Cell.cs) p2.length false)])), (23, (.agg [(.slc (p0.flatMap S_Cell.cs) p0.length false)]))] rfl (by kernel_rfl) ?_
  obtain ⟨v1, hc2, h⟩ := bind_some' h
  refine at_op rfl rfl rfl (aop_call (first := []) (caps := []) (xs := [(.agg [(.slc (p0.flatMap S_Cell.cs) p0.length false)])]) (args' := [(.agg [(.slc (p0.flatMap S_Cell.cs) p0.length false)])]) (sm := []) (r := []) rfl (by kernel_rfl) Try.func10 rfl rfl (law04_few_ok K p0 _ hc2) (by kernel_rfl) (VW.refl _) (permTo [] (by kernel_rfl))) ?_
  rintro _ _ ⟨_, ⟨rfl, rfl⟩, rfl⟩
  obtain ⟨⟨v3, v4⟩, hc5, h⟩ := bind_some' h
  refine at_op rfl rfl rfl (aop_call (first := []) (caps := []) (xs := [(.agg [(.slc (v1.flatMap S_Cell.cs) v1.length false)])]) (args' := [(.agg [(.slc (v1.flatMap S_Cell.cs) v1.length false)])]) (sm := []) (r := []) rfl (by kernel_rfl) Try.func9 rfl rfl (ref04_Open_ok K v1 _ hc5) (by kernel_rfl) (VW.refl _) (permTo [] (by kernel_rfl))) ?_
  rintro _ _ ⟨_, ⟨rfl, rfl⟩, rfl⟩
  refine at_run tt_ok 8 [(1, (.slc (p1.map AV.i) p1.length false)), (3, (.ptr [(.slc (p0.flatMap S_Cell.cs) p0.length false)])), (5, (.ptr [(.slc (p2.flatMap S_Cell.cs) p2.length false)])), (7, (.tree v3))] rfl (by kernel_rfl) ?_
  refine at_end rfl ?_
  refine aw_seq ?_
  refine aw_reg ?_
  refine at_run tt_ok 1 [(1, (.slc (p1.map AV.i) p1.length false)), (5, (.ptr [(.slc (p2.flatMap S_Cell.cs) p2.length false)])), (7, (.tree v3)), (29, (.agg [(.slc (p0.flatMap S_Cell.cs) p0.length false)]))] rfl (by kernel_rfl) ?_
  obtain ⟨v6, hc7, h⟩ := bind_some' h
  refine at_op rfl rfl rfl (aop_call (first := []) (caps := []) (xs := [(.agg [(.slc (p0.flatMap S_Cell.cs) p0.length false)])]) (args' := [(.agg [(.slc (p0.flatMap S_Cell.cs) p0.length false)])]) (sm := []) (r := []) rfl (by kernel_rfl) Try.func10 rfl rfl (law04_few_ok K p0 _ hc7) (by kernel_rfl) (VW.refl _) (permTo [] (by kernel_rfl))) ?_
  rintro _ _ ⟨_, ⟨rfl, rfl⟩, rfl⟩
  obtain ⟨⟨v8, v9⟩, hc10, h⟩ := bind_some' h
  refine at_op rfl rfl rfl (aop_call (first := []) (caps := []) (xs := [(.agg [(.slc (v6.flatMap S_Cell.cs) v6.length false)])]) (args' := [(.agg [(.slc (v6.flatMap S_Cell.cs) v6.length false)])]) (sm := []) (r := []) rfl (by kernel_rfl) Try.func9 rfl rfl (ref04_Open_ok K v6 _ hc10) (by kernel_rfl) (VW.refl _) (permTo [] (by kernel_rfl))) ?_
  rintro _ _ ⟨_, ⟨rfl, rfl⟩, rfl⟩
  refine at_run tt_ok 8 [(1, (.slc (p1.map AV.i) p1.length false)), (5, (.ptr [(.slc (p2.flatMap S_Cell.cs) p2.length false)])), (7, (.tree v3)), (9, (.tree v8))] rfl (by kernel_rfl) ?_
  refine at_end rfl ?_
  refine aw_seq ?_
  refine aw_reg ?_
  refine at_run tt_ok 1 [(1, (.slc (p1.map AV.i) p1.length false)), (7, (.tree v3)), (9, (.tree v8)), (35, (.agg [(.slc (p2.flatMap S_Cell.cs) p2.length false)]))] rfl (by kernel_rfl) ?_
  obtain ⟨v11, hc12, h⟩ := bind_some' h
  refine at_op rfl rfl rfl (aop_call (first := []) (caps := []) (xs := [(.agg [(.slc (p2.flatMap S_Cell.cs) p2.length false)])]) (args' := [(.agg [(.slc (p2.flatMap S_Cell.cs) p2.length false)])]) (sm := []) (r := []) rfl (by kernel_rfl) Try.func10 rfl rfl (law04_few_ok K p2 _ hc12) (by kernel_rfl) (VW.refl _) (permTo [] (by kernel_rfl))) ?_
  rintro _ _ ⟨_, ⟨rfl, rfl⟩, rfl⟩
  obtain ⟨⟨v13, v14⟩, hc15, h⟩ := bind_some' h
  refine at_op rfl rfl rfl (aop_call (first := []) (caps := []) (xs := [(.agg [(.slc (v11.flatMap S_Cell.cs) v11.length false)])]) (args' := [(.agg [(.slc (v11.flatMap S_Cell.cs) v11.length false)])]) (sm := []) (r := []) rfl (by kernel_rfl) Try.func9 rfl rfl (ref04_Open_ok K v11 _ hc15) (by kernel_rfl) (VW.refl _) (permTo [] (by kernel_rfl))) ?_
  rintro _ _ ⟨_, ⟨rfl, rfl⟩, rfl⟩
  refine at_run tt_ok 8 [(1, (.slc (p1.map AV.i) p1.length false)), (7, (.tree v3)), (9, (.tree v8)), (11, (.tree v13))] rfl (by kernel_rfl) ?_
  refine at_end rfl ?_
  refine aw_seq ?_
  refine aw_reg ?_
  refine at_run tt_ok 4 [(7, (.tree v3)), (9, (.tree v8)), (11, (.tree v13)), (40, (.slc (p1.map AV.i) p1.length false)), (43, (.i ((if 30 < (((p1.length : Nat) : Int)) then 30 else (((p1.length : Nat) : Int))))))] rfl (by kernel_rfl) ?_
  obtain ⟨v16, hv16, h⟩ := bind_some' h
  refine at_one rfl rfl rfl (aop_sub1 (g := AV.i) (l := p1) (fu := false) (a1 := 0) (b1 := (if 30 < (((p1.length : Nat) : Int)) then 30 else (((p1.length : Nat) : Int)))) (v := v16) tt_ok hv16 rfl rfl rfl rfl rfl rfl) ?_
  refine at_run tt_ok 6 [(1, (.slc (v16.map AV.i) v16.length false)), (7, (.tree v3)), (9, (.tree v8)), (11, (.tree v13))] rfl (by kernel_rfl) ?_
  refine at_end rfl ?_
  refine aw_seq ?_
  refine aw_reg ?_
  refine at_run tt_ok 2 [(1, (.slc (v16.map AV.i) v16.length false)), (7, (.tree v3)), (9, (.tree v8)), (11, (.tree v13)), (46, (.tree v3)), (47, (.slc (v16.map AV.i) v16.length false))] rfl (by kernel_rfl) ?_
  obtain ⟨⟨v17, v18⟩, hc19, h⟩ := bind_some' h
  refine at_op rfl rfl rfl (aop_call (first := []) (caps := []) (xs := [(.tree v3), (.slc (v16.map AV.i) v16.length false)]) (args' := [(.tree v3), (.slc (v16.map AV.i) v16.length false)]) (sm := []) (r := []) rfl (by kernel_rfl) Try.func23 rfl rfl (arena_At_ok K v3 v16 _ hc19) (by kernel_rfl) (VW.refl _) (permTo [] (by kernel_rfl))) ?_
  rintro _ _ ⟨_, ⟨rfl, rfl⟩, rfl⟩
  refine at_run tt_ok 8 [(1, (.slc (v16.map AV.i) v16.length false)), (7, (.tree v3)), (9, (.tree v8)), (11, (.tree v13)), (13, (.tree v17)), (14, (.i v18))] rfl (by kernel_rfl) ?_
  refine at_end rfl ?_
  refine aw_seq ?_
  refine aw_reg ?_
  refine at_run tt_ok 2 [(1, (.slc (v16.map AV.i) v16.length false)), (7, (.tree v3)), (9, (.tree v8)), (11, (.tree v13)), (13, (.tree v17)), (14, (.i v18)), (52, (.tree v3)), (53, (.slc (v16.map AV.i) v16.length false))] rfl (by kernel_rfl) ?_
  obtain ⟨⟨v20, v21⟩, hc22, h⟩ := bind_some' h
  refine at_op rfl rfl rfl (aop_call (first := []) (caps := []) (xs := [(.tree v3), (.slc (v16.map AV.i) v16.length false)]) (args' := [(.tree v3), (.slc (v16.map AV.i) v16.length false)]) (sm := []) (r := []) rfl (by kernel_rfl) Try.func24 rfl rfl (ref04_At_ok K v3 v16 _ hc22) (by kernel_rfl) (VW.refl _) (permTo [] (by kernel_rfl))) ?_
  rintro _ _ ⟨_, ⟨rfl, rfl⟩, rfl⟩
  refine at_run tt_ok 8 [(1, (.slc (v16.map AV.i) v16.length false)), (7, (.tree v3)), (9, (.tree v8)), (11, (.tree v13)), (13, (.tree v17)), (14, (.i v18)), (15, (.tree v20)), (16, (.i v21))] rfl (by kernel_rfl) ?_
  refine at_end rfl ?_
  refine aw_seq ?_
  refine aw_reg ?_
  refine at_run tt_ok 3 [(1, (.slc (v16.map AV.i) v16.length false)), (7, (.tree v3)), (9, (.tree v8)), (11, (.tree v13)), (13, (.tree v17)), (14, (.i v18)), (15, (.tree v20)), (16, (.i v21)), (58, (.tree v3)), (59, (.slc (v16.map AV.i) v16.length false)), (60, (.tree v13))] rfl (by kernel_rfl) ?_
  obtain ⟨⟨v23, v24⟩, hc25, h⟩ := bind_some' h
  refine at_op rfl rfl rfl (aop_call (first := []) (caps := []) (xs := [(.tree v3), (.slc (v16.map AV.i) v16.length false), (.tree v13)]) (args' := [(.tree v3), (.slc (v16.map AV.i) v16.length false), (.tree v13)]) (sm := []) (r := []) rfl (by kernel_rfl) Try.func25 rfl rfl (arena_Put_ok K v3 v16 v13 _ hc25) (by kernel_rfl) (VW.refl _) (permTo [] (by kernel_rfl))) ?_
  rintro _ _ ⟨_, ⟨rfl, rfl⟩, rfl⟩
  refine at_run tt_ok 9 [(1, (.slc (v16.map AV.i) v16.length false)), (7, (.tree v3)), (9, (.tree v8)), (11, (.tree v13)), (13, (.tree v17)), (14, (.i v18)), (15, (.tree v20)), (16, (.i v21)), (17, (.tree v23)), (18, (.i v24))] rfl (by kernel_rfl) ?_
  refine at_end rfl ?_
  refine aw_seq ?_
  refine aw_reg ?_
  refine at_run tt_ok 3 [(1, (.slc (v16.map AV.i) v16.length false)), (7, (.tree v3)), (9, (.tree v8)), (13, (.tree v17)), (14, (.i v18)), (15, (.tree v20)), (16, (.i v21)), (17, (.tree v23)), (18, (.i v24)), (65, (.tree v3)), (66, (.slc (v16.map AV.i) v16.length false)), (67, (.tree v13))] rfl (by kernel_rfl) ?_
  obtain ⟨⟨v26, v27⟩, hc28, h⟩ := bind_some' h
  refine at_op rfl rfl rfl (aop_call (first := []) (caps := []) (xs := [(.tree v3), (.slc (v16.map AV.i) v16.length false), (.tree v13)]) (args' := [(.tree v3), (.slc (v16.map AV.i) v16.length false), (.tree v13)]) (sm := []) (r := []) rfl (by kernel_rfl) Try.func26 rfl rfl (ref04_Put_ok K v3 v16 v13 _ hc28) (by kernel_rfl) (VW.refl _) (permTo [] (by kernel_rfl))) ?_
  rintro _ _ ⟨_, ⟨rfl, rfl⟩, rfl⟩
  refine at_run tt_ok 9 [(1, (.slc (v16.map AV.i) v16.length false)), (7, (.tree v3)), (9, (.tree v8)), (13, (.tree v17)), (14, (.i v18)), (15, (.tree v20)), (16, (.i v21)), (17, (.tree v23)), (18, (.i v24)), (19, (.tree v26)), (20, (.i v27))] rfl (by kernel_rfl) ?_
  refine at_end rfl ?_
  refine aw_seq ?_
  refine aw_reg ?_
  refine at_run tt_ok 1 [(1, (.slc (v16.map AV.i) v16.length false)), (7, (.tree v3)), (9, (.tree v8)), (13, (.tree v17)), (14, (.i v18)), (15, (.tree v20)), (16, (.i v21)), (17, (.tree v23)), (18, (.i v24)), (19, (.tree v26)), (20, (.i v27)), (21, (.i ((-1))))] rfl (by kernel_rfl) ?_
  refine at_end rfl ?_
  refine aw_seq ?_
  refine aw_seq ?_
  refine aw_reg ?_
  refine at_run tt_ok 3 [(1, (.slc (v16.map AV.i) v16.length false)), (7, (.tree v3)), (9, (.tree v8)), (13, (.tree v17)), (14, (.i v18)), (15, (.tree v20)), (16, (.i v21)), (17, (.tree v23)), (18, (.i v24)), (19, (.tree v26)), (20, (.i v27)), (21, (.i ((-1)))), (73, (.b ((decide (0 < (((v16.length : Nat) : Int)))))))] rfl (by kernel_rfl) ?_
  refine at_end rfl ?_
  refine aw_cond ((decide (0 < (((v16.length : Nat) : Int))))) rfl (fun hb29 => ?_) (fun hb29 => ?_)
  · have h := ite_t hb29 h
    refine aw_reg ?_
    refine at_run tt_ok 1 [(7, (.tree v3)), (9, (.tree v8)), (13, (.tree v17)), (14, (.i v18)), (15, (.tree v20)), (16, (.i v21)), (17, (.tree v23)), (18, (.i v24)), (19, (.tree v26)), (20, (.i v27)), (74, (.slc (v16.map AV.i) v16.length false))] rfl (by kernel_rfl) ?_
    obtain ⟨v30, hv30, h⟩ := bind_some' h
    refine at_one rfl rfl rfl (aop_idx1 (k := .i64) (g := AV.i) (l := v16) (fu := false) (j := 0) (v := v30) tt_ok rfl rfl rfl rfl rfl hv30) ?_
    refine at_run tt_ok 4 [(7, (.tree v3)), (9, (.tree v8)), (13, (.tree v17)), (14, (.i v18)), (15, (.tree v20)), (16, (.i v21)), (17, (.tree v23)), (18, (.i v24)), (19, (.tree v26)), (20, (.i v27)), (21, (.i v30))] rfl (by kernel_rfl) ?_
    refine at_end rfl ?_
    refine aw_seq ?_
    refine aw_reg ?_
    refine at_run tt_ok 2 [(7, (.tree v3)), (9, (.tree v8)), (14, (.i v18)), (16, (.i v21)), (17, (.tree v23)), (18, (.i v24)), (19, (.tree v26)), (20, (.i v27)), (21, (.i v30)), (77, (.tree v17)), (78, (.tree v20))] rfl (by kernel_rfl) ?_
    obtain ⟨v31, hc32, h⟩ := bind_some' h
    refine at_op rfl rfl rfl (aop_call (first := []) (caps := []) (xs := [(.tree v17), (.tree v20)]) (args' := [(.tree v17), (.tree v20)]) (sm := []) (r := []) rfl (by kernel_rfl) Try.func12 rfl rfl (ref04_Same_ok K v17 v20 _ hc32) (by kernel_rfl) (VW.refl _) (permTo [] (by kernel_rfl))) ?_
    rintro _ _ ⟨_, ⟨rfl, rfl⟩, rfl⟩
    refine at_run tt_ok 4 [(7, (.tree v3)), (9, (.tree v8)), (14, (.i v18)), (16, (.i v21)), (17, (.tree v23)), (18, (.i v24)), (19, (.tree v26)), (20, (.i v27)), (21, (.i v30)), (80, (.b v31))] rfl (by kernel_rfl) ?_
    by_cases hb33 : v31 = true
    · have h := ite_t hb33 h
      refine at_setb 80 rfl hb33 ?_
      refine at_run tt_ok 9 [(7, (.tree v3)), (9, (.tree v8)), (17, (.tree v23)), (18, (.i v24)), (19, (.tree v26)), (20, (.i v27)), (21, (.i v30)), (85, (.b ((decide (v18 = v21)))))] rfl (by kernel_rfl) ?_
      by_cases hb34 : (decide (v18 = v21)) = true
      · have h := ite_t hb34 h
        refine at_setb 85 rfl hb34 ?_
        refine at_run tt_ok 11 [(7, (.tree v3)), (9, (.tree v8)), (18, (.i v24)), (20, (.i v27)), (21, (.i v30)), (85, (.b true)), (86, (.tree v23)), (87, (.tree v26))] rfl (by kernel_rfl) ?_
        obtain ⟨v35, hc36, h⟩ := bind_some' h
        refine at_op rfl rfl rfl (aop_call (first := []) (caps := []) (xs := [(.tree v23), (.tree v26)]) (args' := [(.tree v23), (.tree v26)]) (sm := []) (r := []) rfl (by kernel_rfl) Try.func12 rfl rfl (ref04_Same_ok K v23 v26 _ hc36) (by kernel_rfl) (VW.refl _) (permTo [] (by kernel_rfl))) ?_
        rintro _ _ ⟨_, ⟨rfl, rfl⟩, rfl⟩
        refine at_run tt_ok 14 [(7, (.tree v3)), (9, (.tree v8)), (18, (.i v24)), (20, (.i v27)), (21, (.i v30)), (90, (.b v35))] rfl (by kernel_rfl) ?_
        by_cases hb37 : v35 = true
        · have h := ite_t hb37 h
          refine at_setb 90 rfl hb37 ?_
          refine at_run tt_ok 19 [(7, (.tree v3)), (9, (.tree v8)), (21, (.i v30)), (95, (.b ((decide (v24 = v27)))))] rfl (by kernel_rfl) ?_
          by_cases hb38 : (decide (v24 = v27)) = true
          · have h := ite_t hb38 h
            refine at_setb 95 rfl hb38 ?_
            refine at_run tt_ok 21 [(7, (.tree v3)), (21, (.i v30)), (95, (.b true)), (96, (.tree v3)), (97, (.tree v8))] rfl (by kernel_rfl) ?_
            obtain ⟨v39, hc40, h⟩ := bind_some' h
            refine at_op rfl rfl rfl (aop_call (first := []) (caps := []) (xs := [(.tree v3), (.tree v8)]) (args' := [(.tree v3), (.tree v8)]) (sm := []) (r := []) rfl (by kernel_rfl) Try.func12 rfl rfl (ref04_Same_ok K v3 v8 _ hc40) (by kernel_rfl) (VW.refl _) (permTo [] (by kernel_rfl))) ?_
            rintro _ _ ⟨_, ⟨rfl, rfl⟩, rfl⟩
            refine at_run tt_ok 24 [(7, (.tree v3)), (21, (.i v30)), (100, (.b v39))] rfl (by kernel_rfl) ?_
            by_cases hb41 : v39 = true
            · have h := ite_t hb41 h
              refine at_setb 100 rfl hb41 ?_
              refine at_run tt_ok 26 [(7, (.tree v3)), (21, (.i v30)), (100, (.b true)), (101, (.tree v3)), (102, (.i v30))] rfl (by kernel_rfl) ?_
              obtain ⟨v42, hc43, h⟩ := bind_some' h
              refine at_op rfl rfl rfl (aop_call (first := []) (caps := []) (xs := [(.tree v3), (.i v30)]) (args' := [(.tree v3), (.i v30)]) (sm := []) (r := []) rfl (by kernel_rfl) Try.func28 rfl rfl (arena_Paths_ok K v3 v30 _ hc43) (by kernel_rfl) (VW.refl _) (permTo [] (by kernel_rfl))) ?_
              rintro _ _ ⟨_, ⟨rfl, rfl⟩, rfl⟩
              refine at_run tt_ok 29 [(100, (.b true)), (103, (.slc (v42.map (fun l => AV.slc (l.map AV.i) l.length false)) v42.length false)), (104, (.tree v3)), (105, (.i v30))] rfl (by kernel_rfl) ?_
              obtain ⟨v44, hc45, h⟩ := bind_some' h
              refine at_op rfl rfl rfl (aop_call (first := []) (caps := []) (xs := [(.tree v3), (.i v30)]) (args' := [(.tree v3), (.i v30)]) (sm := []) (r := []) rfl (by kernel_rfl) Try.func29 rfl rfl (ref04_Paths_ok K v3 v30 _ hc45) (by kernel_rfl) (VW.refl _) (permTo [] (by kernel_rfl))) ?_
              rintro _ _ ⟨_, ⟨rfl, rfl⟩, rfl⟩
              obtain ⟨v46, hc47, h⟩ := bind_some' h
              refine at_op rfl rfl rfl (aop_call (first := []) (caps := []) (xs := [(.slc (v42.map (fun l => AV.slc (l.map AV.i) l.length false)) v42.length false), (.slc (v44.map (fun l => AV.slc (l.map AV.i) l.length false)) v44.length false)]) (args' := [(.slc (v42.map (fun l => AV.slc (l.map AV.i) l.length false)) v42.length false), (.slc (v44.map (fun l => AV.slc (l.map AV.i) l.length false)) v44.length false)]) (sm := []) (r := []) rfl (by kernel_rfl) Try.func27 rfl rfl (ref04_SamePaths_ok K v42 v44 _ hc47) (by kernel_rfl) (VW.refl _) (permTo [] (by kernel_rfl))) ?_
              rintro _ _ ⟨_, ⟨rfl, rfl⟩, rfl⟩
              refine at_run tt_ok 33 [(109, (.b v46))] rfl (by kernel_rfl) ?_
              by_cases hb48 : v46 = true
              · have h := ite_t hb48 h
                refine at_setb 109 rfl hb48 ?_
                obtain ⟨v49, hc50, h⟩ := bind_some' h
                refine at_op rfl rfl rfl (aop_call (first := []) (caps := []) (xs := []) (args' := []) (sm := []) (r := []) rfl (by kernel_rfl) Try.func18 rfl rfl (law04_works_ok K _ hc50) (by kernel_rfl) (VW.refl _) (permTo [] (by kernel_rfl))) ?_
                rintro _ _ ⟨_, ⟨rfl, rfl⟩, rfl⟩
                refine at_run tt_ok 36 [(6, (.b v49))] rfl (by kernel_rfl) ?_
                refine at_end rfl ?_
                refine aw_ret ?_
                obtain rfl := Option.some.inj h
                exact ⟨(.b v49), (.b v49), _, (res_tmps (by kernel_rfl)), (View.refl _), ⟨_, perm_sel _ [], List.take_sublist 0 _⟩, rfl, rfl⟩
              · have h := ite_f hb48 h
                refine at_setb 109 rfl (nott hb48) ?_
                refine at_run tt_ok 36 [(6, (.b false))] rfl (by kernel_rfl) ?_
                refine at_end rfl ?_
                refine aw_ret ?_
                obtain rfl := Option.some.inj h
                exact ⟨(.b false), (.b false), _, (res_tmps (by kernel_rfl)), (View.refl _), ⟨_, perm_sel _ [], List.take_sublist 0 _⟩, rfl, rfl⟩
            · have h := ite_f hb41 h
              refine at_setb 100 rfl (nott hb41) ?_
              refine at_run tt_ok 36 [(6, (.b false))] rfl (by kernel_rfl) ?_
              refine at_end rfl ?_
              refine aw_ret ?_
              obtain rfl := Option.some.inj h
              exact ⟨(.b false), (.b false), _, (res_tmps (by kernel_rfl)), (View.refl _), ⟨_, perm_sel _ [], List.take_sublist 0 _⟩, rfl, rfl⟩
          · have h := ite_f hb38 h
            refine at_setb 95 rfl (nott hb38) ?_
            refine at_run tt_ok 36 [(6, (.b false))] rfl (by kernel_rfl) ?_
            refine at_end rfl ?_
            refine aw_ret ?_
            obtain rfl := Option.some.inj h
            exact ⟨(.b false), (.b false), _, (res_tmps (by kernel_rfl)), (View.refl _), ⟨_, perm_sel _ [], List.take_sublist 0 _⟩, rfl, rfl⟩
        · have h := ite_f hb37 h
          refine at_setb 90 rfl (nott hb37) ?_
          refine at_run tt_ok 36 [(6, (.b false))] rfl (by kernel_rfl) ?_
          refine at_end rfl ?_
          refine aw_ret ?_
          obtain rfl := Option.some.inj h
          exact ⟨(.b false), (.b false), _, (res_tmps (by kernel_rfl)), (View.refl _), ⟨_, perm_sel _ [], List.take_sublist 0 _⟩, rfl, rfl⟩
      · have h := ite_f hb34 h
        refine at_setb 85 rfl (nott hb34) ?_
        refine at_run tt_ok 36 [(6, (.b false))] rfl (by kernel_rfl) ?_
        refine at_end rfl ?_
        refine aw_ret ?_
        obtain rfl := Option.some.inj h
        exact ⟨(.b false), (.b false), _, (res_tmps (by kernel_rfl)), (View.refl _), ⟨_, perm_sel _ [], List.take_sublist 0 _⟩, rfl, rfl⟩
    · have h := ite_f hb33 h
      refine at_setb 80 rfl (nott hb33) ?_
      refine at_run tt_ok 36 [(6, (.b false))] rfl (by kernel_rfl) ?_
      refine at_end rfl ?_
      refine aw_ret ?_
      obtain rfl := Option.some.inj h
      exact ⟨(.b false), (.b false), _, (res_tmps (by kernel_rfl)), (View.refl _), ⟨_, perm_sel _ [], List.take_sublist 0 _⟩, rfl, rfl⟩
  · have h := ite_f (by rw [hb29]; simp) h
    refine aw_skip ?_
    refine aw_seq ?_
    refine aw_reg ?_
    refine at_run tt_ok 2 [(7, (.tree v3)), (9, (.tree v8)), (14, (.i v18)), (16, (.i v21)), (17, (.tree v23)), (18, (.i v24)), (19, (.tree v26)), (20, (.i v27)), (21, (.i ((-1)))), (77, (.tree v17)), (78, (.tree v20))] rfl (by kernel_rfl) ?_
    obtain ⟨v51, hc52, h⟩ := bind_some' h
    refine at_op rfl rfl rfl (aop_call (first := []) (caps := []) (xs := [(.tree v17), (.tree v20)]) (args' := [(.tree v17), (.tree v20)]) (sm := []) (r := []) rfl (by kernel_rfl) Try.func12 rfl rfl (ref04_Same_ok K v17 v20 _ hc52) (by kernel_rfl) (VW.refl _) (permTo [] (by kernel_rfl))) ?_
    rintro _ _ ⟨_, ⟨rfl, rfl⟩, rfl⟩
    refine at_run tt_ok 4 [(7, (.tree v3)), (9, (.tree v8)), (14, (.i v18)), (16, (.i v21)), (17, (.tree v23)), (18, (.i v24)), (19, (.tree v26)), (20, (.i v27)), (21, (.i ((-1)))), (80, (.b v51))] rfl (by kernel_rfl) ?_
    by_cases hb53 : v51 = true
    · have h := ite_t hb53 h
      refine at_setb 80 rfl hb53 ?_
      refine at_run tt_ok 9 [(7, (.tree v3)), (9, (.tree v8)), (17, (.tree v23)), (18, (.i v24)), (19, (.tree v26)), (20, (.i v27)), (21, (.i ((-1)))), (85, (.b ((decide (v18 = v21)))))] rfl (by kernel_rfl) ?_
      by_cases hb54 : (decide (v18 = v21)) = true
      · have h := ite_t hb54 h
        refine at_setb 85 rfl hb54 ?_
        refine at_run tt_ok 11 [(7, (.tree v3)), (9, (.tree v8)), (18, (.i v24)), (20, (.i v27)), (21, (.i ((-1)))), (85, (.b true)), (86, (.tree v23)), (87, (.tree v26))] rfl (by kernel_rfl) ?_
        obtain ⟨v55, hc56, h⟩ := bind_some' h
        refine at_op rfl rfl rfl (aop_call (first := []) (caps := []) (xs := [(.tree v23), (.tree v26)]) (args' := [(.tree v23), (.tree v26)]) (sm := []) (r := []) rfl (by kernel_rfl) Try.func12 rfl rfl (ref04_Same_ok K v23 v26 _ hc56) (by kernel_rfl) (VW.refl _) (permTo [] (by kernel_rfl))) ?_
        rintro _ _ ⟨_, ⟨rfl, rfl⟩, rfl⟩
        refine at_run tt_ok 14 [(7, (.tree v3)), (9, (.tree v8)), (18, (.i v24)), (20, (.i v27)), (21, (.i ((-1)))), (90, (.b v55))] rfl (by kernel_rfl) ?_
        by_cases hb57 : v55 = true
        · have h := ite_t hb57 h
          refine at_setb 90 rfl hb57 ?_
          refine at_run tt_ok 19 [(7, (.tree v3)), (9, (.tree v8)), (21, (.i ((-1)))), (95, (.b ((decide (v24 = v27)))))] rfl (by kernel_rfl) ?_
          by_cases hb58 : (decide (v24 = v27)) = true
          · have h := ite_t hb58 h
            refine at_setb 95 rfl hb58 ?_
            refine at_run tt_ok 21 [(7, (.tree v3)), (21, (.i ((-1)))), (95, (.b true)), (96, (.tree v3)), (97, (.tree v8))] rfl (by kernel_rfl) ?_
            obtain ⟨v59, hc60, h⟩ := bind_some' h
            refine at_op rfl rfl rfl (aop_call (first := []) (caps := []) (xs := [(.tree v3), (.tree v8)]) (args' := [(.tree v3), (.tree v8)]) (sm := []) (r := []) rfl (by kernel_rfl) Try.func12 rfl rfl (ref04_Same_ok K v3 v8 _ hc60) (by kernel_rfl) (VW.refl _) (permTo [] (by kernel_rfl))) ?_
            rintro _ _ ⟨_, ⟨rfl, rfl⟩, rfl⟩
            refine at_run tt_ok 24 [(7, (.tree v3)), (21, (.i ((-1)))), (100, (.b v59))] rfl (by kernel_rfl) ?_
            by_cases hb61 : v59 = true
            · have h := ite_t hb61 h
              refine at_setb 100 rfl hb61 ?_
              refine at_run tt_ok 26 [(7, (.tree v3)), (21, (.i ((-1)))), (100, (.b true)), (101, (.tree v3)), (102, (.i ((-1))))] rfl (by kernel_rfl) ?_
              obtain ⟨v62, hc63, h⟩ := bind_some' h
              refine at_op rfl rfl rfl (aop_call (first := []) (caps := []) (xs := [(.tree v3), (.i ((-1)))]) (args' := [(.tree v3), (.i ((-1)))]) (sm := []) (r := []) rfl (by kernel_rfl) Try.func28 rfl rfl (arena_Paths_ok K v3 ((-1)) _ hc63) (by kernel_rfl) (VW.refl _) (permTo [] (by kernel_rfl))) ?_
              rintro _ _ ⟨_, ⟨rfl, rfl⟩, rfl⟩
              refine at_run tt_ok 29 [(100, (.b true)), (103, (.slc (v62.map (fun l => AV.slc (l.map AV.i) l.length false)) v62.length false)), (104, (.tree v3)), (105, (.i ((-1))))] rfl (by kernel_rfl) ?_
              obtain ⟨v64, hc65, h⟩ := bind_some' h
              refine at_op rfl rfl rfl (aop_call (first := []) (caps := []) (xs := [(.tree v3), (.i ((-1)))]) (args' := [(.tree v3), (.i ((-1)))]) (sm := []) (r := []) rfl (by kernel_rfl) Try.func29 rfl rfl (ref04_Paths_ok K v3 ((-1)) _ hc65) (by kernel_rfl) (VW.refl _) (permTo [] (by kernel_rfl))) ?_
              rintro _ _ ⟨_, ⟨rfl, rfl⟩, rfl⟩
              obtain ⟨v66, hc67, h⟩ := bind_some' h
              refine at_op rfl rfl rfl (aop_call (first := []) (caps := []) (xs := [(.slc (v62.map (fun l => AV.slc (l.map AV.i) l.length false)) v62.length false), (.slc (v64.map (fun l => AV.slc (l.map AV.i) l.length false)) v64.length false)]) (args' := [(.slc (v62.map (fun l => AV.slc (l.map AV.i) l.length false)) v62.length false), (.slc (v64.map (fun l => AV.slc (l.map AV.i) l.length false)) v64.length false)]) (sm := []) (r := []) rfl (by kernel_rfl) Try.func27 rfl rfl (ref04_SamePaths_ok K v62 v64 _ hc67) (by kernel_rfl) (VW.refl _) (permTo [] (by kernel_rfl))) ?_
              rintro _ _ ⟨_, ⟨rfl, rfl⟩, rfl⟩
              refine at_run tt_ok 33 [(109, (.b v66))] rfl (by kernel_rfl) ?_
              by_cases hb68 : v66 = true
              · have h := ite_t hb68 h
                refine at_setb 109 rfl hb68 ?_
                obtain ⟨v69, hc70, h⟩ := bind_some' h
                refine at_op rfl rfl rfl (aop_call (first := []) (caps := []) (xs := []) (args' := []) (sm := []) (r := []) rfl (by kernel_rfl) Try.func18 rfl rfl (law04_works_ok K _ hc70) (by kernel_rfl) (VW.refl _) (permTo [] (by kernel_rfl))) ?_
                rintro _ _ ⟨_, ⟨rfl, rfl⟩, rfl⟩
                refine at_run tt_ok 36 [(6, (.b v69))] rfl (by kernel_rfl) ?_
                refine at_end rfl ?_
                refine aw_ret ?_
                obtain rfl := Option.some.inj h
                exact ⟨(.b v69), (.b v69), _, (res_tmps (by kernel_rfl)), (View.refl _), ⟨_, perm_sel _ [], List.take_sublist 0 _⟩, rfl, rfl⟩
              · have h := ite_f hb68 h
                refine at_setb 109 rfl (nott hb68) ?_
                refine at_run tt_ok 36 [(6, (.b false))] rfl (by kernel_rfl) ?_
                refine at_end rfl ?_
                refine aw_ret ?_
                obtain rfl := Option.some.inj h
                exact ⟨(.b false), (.b false), _, (res_tmps (by kernel_rfl)), (View.refl _), ⟨_, perm_sel _ [], List.take_sublist 0 _⟩, rfl, rfl⟩
            · have h := ite_f hb61 h
              refine at_setb 100 rfl (nott hb61) ?_
              refine at_run tt_ok 36 [(6, (.b false))] rfl (by kernel_rfl) ?_
              refine at_end rfl ?_
              refine aw_ret ?_
              obtain rfl := Option.some.inj h
              exact ⟨(.b false), (.b false), _, (res_tmps (by kernel_rfl)), (View.refl _), ⟨_, perm_sel _ [], List.take_sublist 0 _⟩, rfl, rfl⟩
          · have h := ite_f hb58 h
            refine at_setb 95 rfl (nott hb58) ?_
            refine at_run tt_ok 36 [(6, (.b false))] rfl (by kernel_rfl) ?_
            refine at_end rfl ?_
            refine aw_ret ?_
            obtain rfl := Option.some.inj h
            exact ⟨(.b false), (.b false), _, (res_tmps (by kernel_rfl)), (View.refl _), ⟨_, perm_sel _ [], List.take_sublist 0 _⟩, rfl, rfl⟩
        · have h := ite_f hb57 h
          refine at_setb 90 rfl (nott hb57) ?_
          refine at_run tt_ok 36 [(6, (.b false))] rfl (by kernel_rfl) ?_
          refine at_end rfl ?_
          refine aw_ret ?_
          obtain rfl := Option.some.inj h
          exact ⟨(.b false), (.b false), _, (res_tmps (by kernel_rfl)), (View.refl _), ⟨_, perm_sel _ [], List.take_sublist 0 _⟩, rfl, rfl⟩
      · have h := ite_f hb54 h
        refine at_setb 85 rfl (nott hb54) ?_
        refine at_run tt_ok 36 [(6, (.b false))] rfl (by kernel_rfl) ?_
        refine at_end rfl ?_
        refine aw_ret ?_
        obtain rfl := Option.some.inj h
        exact ⟨(.b false), (.b false), _, (res_tmps (by kernel_rfl)), (View.refl _), ⟨_, perm_sel _ [], List.take_sublist 0 _⟩, rfl, rfl⟩
    · have h := ite_f hb53 h
      refine at_setb 80 rfl (nott hb53) ?_
      refine at_run tt_ok 36 [(6, (.b false))] rfl (by kernel_rfl) ?_
      refine at_end rfl ?_
      refine aw_ret ?_
      obtain rfl := Option.some.inj h
      exact ⟨(.b false), (.b false), _, (res_tmps (by kernel_rfl)), (View.refl _), ⟨_, perm_sel _ [], List.take_sublist 0 _⟩, rfl, rfl⟩
end Go.Proofs.Ythkaeeadihplcaa
