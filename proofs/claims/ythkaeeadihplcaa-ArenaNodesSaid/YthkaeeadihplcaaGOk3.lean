/- That the Go functions come to the printed Lean functions, whatever they are handed: each walk under no condition but that the Lean function answers. Printed by gen.py of this session. -/
import Derived.Test.YthkaeeadihplcaaGOk2
namespace Go.Proofs.Ythkaeeadihplcaa
open Go Go.Am
theorem law04_ArenaNodes_ok (K : Nat) : ∀ (p0 : List S_Cell) (p1 : Int) (r : Bool), law04_ArenaNodes K p0 p1 = some r → ACalls Try.prog 7 [(.agg [(.slc (p0.flatMap S_Cell.cs) p0.length false)]), (.i p1)] [] (fun av s => av = (.b r) ∧ s = []) := by
  intro p0 p1 r h
  refine acalls_enter Try.func7 rfl rfl ?_
  refine aw_seq ?_
  refine aw_normal [(0, (.agg [(.slc (p0.flatMap S_Cell.cs) p0.length false)])), (1, (.i p1))] (s' := []) (by kernel_rfl) rfl ?_
  refine aw_reg ?_
  refine at_run tt_ok 2 [(1, (.i p1)), (2, (.ptr [(.slc (p0.flatMap S_Cell.cs) p0.length false)]))] rfl (by kernel_rfl) ?_
  refine at_end rfl ?_
  refine aw_seq ?_
  refine aw_reg ?_
  refine at_run tt_ok 1 [(1, (.i p1)), (14, (.agg [(.slc (p0.flatMap S_Cell.cs) p0.length false)]))] rfl (by kernel_rfl) ?_
  obtain ⟨v1, hc2, h⟩ := bind_some' h
  refine at_op rfl rfl rfl (aop_call (first := []) (caps := []) (xs := [(.agg [(.slc (p0.flatMap S_Cell.cs) p0.length false)])]) (args' := [(.agg [(.slc (p0.flatMap S_Cell.cs) p0.length false)])]) (sm := []) (r := []) rfl (by kernel_rfl) Try.func10 rfl rfl (law04_few_ok K p0 _ hc2) (by kernel_rfl) (VW.refl _) (permTo [] (by kernel_rfl))) ?_
  rintro _ _ ⟨_, ⟨rfl, rfl⟩, rfl⟩
  obtain ⟨⟨v3, v4⟩, hc5, h⟩ := bind_some' h
  refine at_op rfl rfl rfl (aop_call (first := []) (caps := []) (xs := [(.agg [(.slc (v1.flatMap S_Cell.cs) v1.length false)])]) (args' := [(.agg [(.slc (v1.flatMap S_Cell.cs) v1.length false)])]) (sm := []) (r := []) rfl (by kernel_rfl) Try.func19 rfl rfl (arena_Open_ok K v1 _ hc5) (by kernel_rfl) (VW.refl _) (permTo [] (by kernel_rfl))) ?_
  rintro _ _ ⟨_, ⟨rfl, rfl⟩, rfl⟩
  refine at_run tt_ok 8 [(1, (.i p1)), (5, (.tree v3)), (6, (.i v4))] rfl (by kernel_rfl) ?_
  refine at_end rfl ?_
  refine aw_seq ?_
  refine aw_seq ?_
  refine aw_reg ?_
  refine at_run tt_ok 2 [(1, (.i p1)), (5, (.tree v3)), (20, (.b ((!decide (v4 = 0)))))] rfl (by kernel_rfl) ?_
  refine at_end rfl ?_
  refine aw_cond ((!decide (v4 = 0))) rfl (fun hb6 => ?_) (fun hb6 => ?_)
  · have h := ite_t hb6 h
    refine aw_seq ?_
    refine aw_reg ?_
    refine at_run tt_ok 2 [(21, (.tree v3)), (22, (.i p1))] rfl (by kernel_rfl) ?_
    obtain ⟨v7, hc8, h⟩ := bind_some' h
    refine at_op rfl rfl rfl (aop_call (first := []) (caps := []) (xs := [(.tree v3), (.i p1)]) (args' := [(.tree v3), (.i p1)]) (sm := []) (r := []) rfl (by kernel_rfl) Try.func28 rfl rfl (arena_Paths_ok K v3 p1 _ hc8) (by kernel_rfl) (VW.refl _) (permTo [] (by kernel_rfl))) ?_
    rintro _ _ ⟨_, ⟨rfl, rfl⟩, rfl⟩
    refine at_run tt_ok 6 [(26, (.b ((decide ((((v7.length : Nat) : Int)) = 0)))))] rfl (by kernel_rfl) ?_
    by_cases hb9 : (decide ((((v7.length : Nat) : Int)) = 0)) = true
    · have h := ite_t hb9 h
      refine at_setb 26 rfl hb9 ?_
      obtain ⟨v10, hc11, h⟩ := bind_some' h
      refine at_op rfl rfl rfl (aop_call (first := []) (caps := []) (xs := []) (args' := []) (sm := []) (r := []) rfl (by kernel_rfl) Try.func18 rfl rfl (law04_works_ok K _ hc11) (by kernel_rfl) (VW.refl _) (permTo [] (by kernel_rfl))) ?_
      rintro _ _ ⟨_, ⟨rfl, rfl⟩, rfl⟩
      refine at_run tt_ok 9 [(4, (.b v10))] rfl (by kernel_rfl) ?_
      refine at_end rfl ?_
      refine aw_ret ?_
      obtain rfl := Option.some.inj h
      exact ⟨(.b v10), (.b v10), _, (res_tmps (by kernel_rfl)), (View.refl _), ⟨_, perm_sel _ [], List.take_sublist 0 _⟩, rfl, rfl⟩
    · have h := ite_f hb9 h
      refine at_setb 26 rfl (nott hb9) ?_
      refine at_run tt_ok 9 [(4, (.b false))] rfl (by kernel_rfl) ?_
      refine at_end rfl ?_
      refine aw_ret ?_
      obtain rfl := Option.some.inj h
      exact ⟨(.b false), (.b false), _, (res_tmps (by kernel_rfl)), (View.refl _), ⟨_, perm_sel _ [], List.take_sublist 0 _⟩, rfl, rfl⟩
  · have h := ite_f (by rw [hb6]; simp) h
    refine aw_skip ?_
    refine aw_seq ?_
    refine aw_reg ?_
    refine at_run tt_ok 2 [(1, (.i p1)), (5, (.tree v3)), (29, (.tree v3)), (30, (.i p1))] rfl (by kernel_rfl) ?_
    obtain ⟨v12, hc13, h⟩ := bind_some' h
    refine at_op rfl rfl rfl (aop_call (first := []) (caps := []) (xs := [(.tree v3), (.i p1)]) (args' := [(.tree v3), (.i p1)]) (sm := []) (r := []) rfl (by kernel_rfl) Try.func28 rfl rfl (arena_Paths_ok K v3 p1 _ hc13) (by kernel_rfl) (VW.refl _) (permTo [] (by kernel_rfl))) ?_
    rintro _ _ ⟨_, ⟨rfl, rfl⟩, rfl⟩
    refine at_run tt_ok 4 [(1, (.i p1)), (5, (.tree v3)), (7, (.slc (v12.map (fun l => AV.slc (l.map AV.i) l.length false)) v12.length false))] rfl (by kernel_rfl) ?_
    refine at_end rfl ?_
    refine aw_seq ?_
    refine aw_seq ?_
    refine aw_reg ?_
    refine at_run tt_ok 3 [(1, (.i p1)), (5, (.tree v3)), (7, (.slc (v12.map (fun l => AV.slc (l.map AV.i) l.length false)) v12.length false)), (32, (.slc (v12.map (fun l => AV.slc (l.map AV.i) l.length false)) v12.length false)), (33, (.i (((v12.length : Nat) : Int)))), (34, (.i 0))] rfl (by kernel_rfl) ?_
    refine at_end rfl ?_
    refine aw_block ?_
    refine aw_loop_ind' (X := Int) (fun k' x => k' ≤ K ∧ law04_ArenaNodes_l0 k' p1 v3 v12 x = some r) (fun x => [(1, (.i p1)), (5, (.tree v3)), (7, (.slc (v12.map (fun l => AV.slc (l.map AV.i) l.length false)) v12.length false)), (32, (.slc (v12.map (fun l => AV.slc (l.map AV.i) l.length false)) v12.length false)), (33, (.i (((v12.length : Nat) : Int)))), (34, (.i x))]) (fun x => []) (fun x hx => by cases hx.2) ?_ K 0 ⟨Nat.le_refl _, h⟩ (by kernel_rfl) rfl
    clear h
    rintro k16 w0_1 ⟨hlek16, h⟩
    refine aw_seq ?_
    refine aw_reg ?_
    refine at_run tt_ok 1 [(1, (.i p1)), (5, (.tree v3)), (7, (.slc (v12.map (fun l => AV.slc (l.map AV.i) l.length false)) v12.length false)), (32, (.slc (v12.map (fun l => AV.slc (l.map AV.i) l.length false)) v12.length false)), (33, (.i (((v12.length : Nat) : Int)))), (34, (.i w0_1)), (35, (.b ((decide (w0_1 < (((v12.length : Nat) : Int)))))))] rfl (by kernel_rfl) ?_
    refine at_end rfl ?_
    refine aw_seq ?_
    refine aw_cond ((decide (w0_1 < (((v12.length : Nat) : Int))))) rfl (fun hb17 => ?_) (fun hb17 => ?_)
    · have h := ite_t hb17 h
      refine aw_skip ?_
      refine aw_seq ?_
      refine aw_block ?_
      refine aw_seq ?_
      refine aw_reg ?_
      refine at_run tt_ok 1 [(1, (.i p1)), (5, (.tree v3)), (7, (.slc (v12.map (fun l => AV.slc (l.map AV.i) l.length false)) v12.length false)), (32, (.slc (v12.map (fun l => AV.slc (l.map AV.i) l.length false)) v12.length false)), (33, (.i (((v12.length : Nat) : Int)))), (34, (.i w0_1)), (36, (.i w0_1))] rfl (by kernel_rfl) ?_
      obtain ⟨v18, hv18, h⟩ := bind_some' h
      refine at_one rfl rfl rfl (aop_idx1 (k := .i64) (g := (fun l => AV.slc (l.map AV.i) l.length false)) (l := v12) (fu := false) (j := w0_1) (v := v18) tt_ok rfl rfl rfl rfl rfl hv18) ?_
      refine at_run tt_ok 5 [(1, (.i p1)), (5, (.tree v3)), (7, (.slc (v12.map (fun l => AV.slc (l.map AV.i) l.length false)) v12.length false)), (8, (.i w0_1)), (9, (.slc (v18.map AV.i) v18.length false)), (32, (.slc (v12.map (fun l => AV.slc (l.map AV.i) l.length false)) v12.length false)), (33, (.i (((v12.length : Nat) : Int)))), (34, (.i w0_1))] rfl (by kernel_rfl) ?_
      refine at_end rfl ?_
      refine aw_seq ?_
      refine aw_reg ?_
      refine at_run tt_ok 2 [(1, (.i p1)), (5, (.tree v3)), (7, (.slc (v12.map (fun l => AV.slc (l.map AV.i) l.length false)) v12.length false)), (8, (.i w0_1)), (9, (.slc (v18.map AV.i) v18.length false)), (32, (.slc (v12.map (fun l => AV.slc (l.map AV.i) l.length false)) v12.length false)), (33, (.i (((v12.length : Nat) : Int)))), (34, (.i w0_1)), (40, (.tree v3)), (41, (.slc (v18.map AV.i) v18.length false))] rfl (by kernel_rfl) ?_
      obtain ⟨⟨v19, v20⟩, hc21, h⟩ := bind_some' h
      refine at_op rfl rfl rfl (aop_call (first := []) (caps := []) (xs := [(.tree v3), (.slc (v18.map AV.i) v18.length false)]) (args' := [(.tree v3), (.slc (v18.map AV.i) v18.length false)]) (sm := []) (r := []) rfl (by kernel_rfl) Try.func23 rfl rfl (arena_At_ok k16 v3 v18 _ hc21) (by kernel_rfl) (VW.refl _) (permTo [] (by kernel_rfl))) ?_
      rintro _ _ ⟨_, ⟨rfl, rfl⟩, rfl⟩
      refine at_run tt_ok 8 [(1, (.i p1)), (5, (.tree v3)), (7, (.slc (v12.map (fun l => AV.slc (l.map AV.i) l.length false)) v12.length false)), (8, (.i w0_1)), (9, (.slc (v18.map AV.i) v18.length false)), (10, (.tree v19)), (11, (.i v20)), (32, (.slc (v12.map (fun l => AV.slc (l.map AV.i) l.length false)) v12.length false)), (33, (.i (((v12.length : Nat) : Int)))), (34, (.i w0_1))] rfl (by kernel_rfl) ?_
      refine at_end rfl ?_
      refine aw_seq ?_
      refine aw_seq ?_
      refine aw_reg ?_
      refine at_run tt_ok 3 [(1, (.i p1)), (5, (.tree v3)), (7, (.slc (v12.map (fun l => AV.slc (l.map AV.i) l.length false)) v12.length false)), (8, (.i w0_1)), (9, (.slc (v18.map AV.i) v18.length false)), (10, (.tree v19)), (32, (.slc (v12.map (fun l => AV.slc (l.map AV.i) l.length false)) v12.length false)), (33, (.i (((v12.length : Nat) : Int)))), (34, (.i w0_1)), (47, (.b ((!decide (v20 = 0)))))] rfl (by kernel_rfl) ?_
      by_cases hb22 : (!decide (v20 = 0)) = true
      · have h := ite_t hb22 h
        refine at_setb 47 rfl hb22 ?_
        refine at_run tt_ok 14 [(1, (.i p1)), (5, (.tree v3)), (7, (.slc (v12.map (fun l => AV.slc (l.map AV.i) l.length false)) v12.length false)), (8, (.i w0_1)), (9, (.slc (v18.map AV.i) v18.length false)), (32, (.slc (v12.map (fun l => AV.slc (l.map AV.i) l.length false)) v12.length false)), (33, (.i (((v12.length : Nat) : Int)))), (34, (.i w0_1)), (58, (.b true))] rfl (by kernel_rfl) ?_
        refine at_end rfl ?_
        refine aw_cond true rfl (fun _ => ?_) (fun h => by cases h)
        refine aw_seq ?_
        refine aw_reg ?_
        refine at_run tt_ok 1 [(4, (.b false))] rfl (by kernel_rfl) ?_
        refine at_end rfl ?_
        refine aw_ret ?_
        obtain rfl := Option.some.inj h
        exact ⟨(.b false), (.b false), _, (res_tmps (by kernel_rfl)), (View.refl _), ⟨_, perm_sel _ [], List.take_sublist 0 _⟩, rfl, rfl⟩
      · have h := ite_f hb22 h
        refine at_setb 47 rfl (nott hb22) ?_
        refine at_run tt_ok 6 [(1, (.i p1)), (5, (.tree v3)), (7, (.slc (v12.map (fun l => AV.slc (l.map AV.i) l.length false)) v12.length false)), (8, (.i w0_1)), (9, (.slc (v18.map AV.i) v18.length false)), (10, (.tree v19)), (32, (.slc (v12.map (fun l => AV.slc (l.map AV.i) l.length false)) v12.length false)), (33, (.i (((v12.length : Nat) : Int)))), (34, (.i w0_1)), (47, (.b false)), (48, (.i p1)), (49, (.b ((decide (0 ≤ p1))))), (50, (.b ((decide (0 ≤ p1)))))] rfl (by kernel_rfl) ?_
        by_cases hb23 : (decide (0 ≤ p1)) = true
        · have h := ite_t hb23 h
          refine at_setb 49 rfl hb23 ?_
          refine at_setb 50 rfl hb23 ?_
          refine at_run tt_ok 7 [(1, (.i p1)), (5, (.tree v3)), (7, (.slc (v12.map (fun l => AV.slc (l.map AV.i) l.length false)) v12.length false)), (8, (.i w0_1)), (9, (.slc (v18.map AV.i) v18.length false)), (32, (.slc (v12.map (fun l => AV.slc (l.map AV.i) l.length false)) v12.length false)), (33, (.i (((v12.length : Nat) : Int)))), (34, (.i w0_1)), (47, (.b false)), (48, (.i p1)), (49, (.b true)), (50, (.b true)), (51, (.tree v19))] rfl (by kernel_rfl) ?_
          cases v19 with
          | nil =>
            cases h
          | node n24 n25 n26 n27 n28 =>
            refine at_run tt_ok 14 [(1, (.i p1)), (5, (.tree v3)), (7, (.slc (v12.map (fun l => AV.slc (l.map AV.i) l.length false)) v12.length false)), (8, (.i w0_1)), (9, (.slc (v18.map AV.i) v18.length false)), (32, (.slc (v12.map (fun l => AV.slc (l.map AV.i) l.length false)) v12.length false)), (33, (.i (((v12.length : Nat) : Int)))), (34, (.i w0_1)), (48, (.i p1)), (49, (.b true)), (50, (.b true)), (51, (.tree ((.node n24 n25 n26 n27 n28)))), (52, (.ptr [(.i n24), (.i n25), (.s n26), (.s n27), (.slc (n28.map AV.tree) n28.length false)])), (53, (.ptr [(.i n24), (.i n25), (.s n26), (.s n27), (.slc (n28.map AV.tree) n28.length false)])), (54, (.i n24)), (55, (.i p1)), (56, (.b ((!decide (n24 = p1))))), (57, (.b ((!decide (n24 = p1))))), (58, (.b ((!decide (n24 = p1)))))] rfl (by kernel_rfl) ?_
            refine at_end rfl ?_
            refine aw_cond ((!decide (n24 = p1))) rfl (fun hb29 => ?_) (fun hb29 => ?_)
            · have h := ite_t hb29 h
              refine aw_seq ?_
              refine aw_reg ?_
              refine at_run tt_ok 1 [(4, (.b false))] rfl (by kernel_rfl) ?_
              refine at_end rfl ?_
              refine aw_ret ?_
              obtain rfl := Option.some.inj h
              exact ⟨(.b false), (.b false), _, (res_tmps (by kernel_rfl)), (View.refl _), ⟨_, perm_sel _ [], List.take_sublist 0 _⟩, rfl, rfl⟩
            · have h := ite_f (by rw [hb29]; simp) h
              refine aw_skip ?_
              refine aw_seq ?_
              refine aw_reg ?_
              refine at_run tt_ok 2 [(1, (.i p1)), (5, (.tree v3)), (7, (.slc (v12.map (fun l => AV.slc (l.map AV.i) l.length false)) v12.length false)), (9, (.slc (v18.map AV.i) v18.length false)), (32, (.slc (v12.map (fun l => AV.slc (l.map AV.i) l.length false)) v12.length false)), (33, (.i (((v12.length : Nat) : Int)))), (34, (.i w0_1)), (48, (.i p1)), (49, (.b true)), (50, (.b true)), (51, (.tree ((.node n24 n25 n26 n27 n28)))), (52, (.ptr [(.i n24), (.i n25), (.s n26), (.s n27), (.slc (n28.map AV.tree) n28.length false)])), (53, (.ptr [(.i n24), (.i n25), (.s n26), (.s n27), (.slc (n28.map AV.tree) n28.length false)])), (54, (.i n24)), (55, (.i p1)), (56, (.b ((!decide (n24 = p1))))), (57, (.b ((!decide (n24 = p1))))), (59, (.i w0_1)), (60, (.i 0))] rfl (by kernel_rfl) ?_
              refine at_end rfl ?_
              refine aw_block ?_
              refine aw_loop_ind' (X := Int) (fun k' x => k' ≤ k16 ∧ law04_ArenaNodes_l1 k' p1 v3 v12 w0_1 v18 n24 n25 n26 n27 n28 x = some r) (fun x => [(1, (.i p1)), (5, (.tree v3)), (7, (.slc (v12.map (fun l => AV.slc (l.map AV.i) l.length false)) v12.length false)), (9, (.slc (v18.map AV.i) v18.length false)), (32, (.slc (v12.map (fun l => AV.slc (l.map AV.i) l.length false)) v12.length false)), (33, (.i (((v12.length : Nat) : Int)))), (34, (.i w0_1)), (48, (.i p1)), (49, (.b true)), (50, (.b true)), (51, (.tree ((.node n24 n25 n26 n27 n28)))), (52, (.ptr [(.i n24), (.i n25), (.s n26), (.s n27), (.slc (n28.map AV.tree) n28.length false)])), (53, (.ptr [(.i n24), (.i n25), (.s n26), (.s n27), (.slc (n28.map AV.tree) n28.length false)])), (54, (.i n24)), (55, (.i p1)), (56, (.b ((!decide (n24 = p1))))), (57, (.b ((!decide (n24 = p1))))), (59, (.i w0_1)), (60, (.i x))]) (fun x => []) (fun x hx => by cases hx.2) ?_ k16 0 ⟨Nat.le_refl _, h⟩ (by kernel_rfl) rfl
              clear h
              rintro k32 w1_1 ⟨hlek32, h⟩
              refine aw_seq ?_
              refine aw_reg ?_
              refine at_run tt_ok 1 [(1, (.i p1)), (5, (.tree v3)), (7, (.slc (v12.map (fun l => AV.slc (l.map AV.i) l.length false)) v12.length false)), (9, (.slc (v18.map AV.i) v18.length false)), (32, (.slc (v12.map (fun l => AV.slc (l.map AV.i) l.length false)) v12.length false)), (33, (.i (((v12.length : Nat) : Int)))), (34, (.i w0_1)), (48, (.i p1)), (49, (.b true)), (50, (.b true)), (51, (.tree ((.node n24 n25 n26 n27 n28)))), (52, (.ptr [(.i n24), (.i n25), (.s n26), (.s n27), (.slc (n28.map AV.tree) n28.length false)])), (53, (.ptr [(.i n24), (.i n25), (.s n26), (.s n27), (.slc (n28.map AV.tree) n28.length false)])), (54, (.i n24)), (55, (.i p1)), (56, (.b ((!decide (n24 = p1))))), (57, (.b ((!decide (n24 = p1))))), (59, (.i w0_1)), (60, (.i w1_1)), (61, (.b ((decide (w1_1 < w0_1)))))] rfl (by kernel_rfl) ?_
              refine at_end rfl ?_
              refine aw_seq ?_
              refine aw_cond ((decide (w1_1 < w0_1))) rfl (fun hb33 => ?_) (fun hb33 => ?_)
              · have h := ite_t hb33 h
                refine aw_skip ?_
                refine aw_seq ?_
                refine aw_block ?_
                refine aw_seq ?_
                refine aw_reg ?_
                refine at_run tt_ok 2 [(1, (.i p1)), (5, (.tree v3)), (7, (.slc (v12.map (fun l => AV.slc (l.map AV.i) l.length false)) v12.length false)), (9, (.slc (v18.map AV.i) v18.length false)), (12, (.i w1_1)), (32, (.slc (v12.map (fun l => AV.slc (l.map AV.i) l.length false)) v12.length false)), (33, (.i (((v12.length : Nat) : Int)))), (34, (.i w0_1)), (48, (.i p1)), (49, (.b true)), (50, (.b true)), (51, (.tree ((.node n24 n25 n26 n27 n28)))), (52, (.ptr [(.i n24), (.i n25), (.s n26), (.s n27), (.slc (n28.map AV.tree) n28.length false)])), (53, (.ptr [(.i n24), (.i n25), (.s n26), (.s n27), (.slc (n28.map AV.tree) n28.length false)])), (54, (.i n24)), (55, (.i p1)), (56, (.b ((!decide (n24 = p1))))), (57, (.b ((!decide (n24 = p1))))), (59, (.i w0_1)), (60, (.i w1_1))] rfl (by kernel_rfl) ?_
                refine at_end rfl ?_
                refine aw_seq ?_
                refine aw_reg ?_
                refine at_run tt_ok 2 [(1, (.i p1)), (5, (.tree v3)), (7, (.slc (v12.map (fun l => AV.slc (l.map AV.i) l.length false)) v12.length false)), (9, (.slc (v18.map AV.i) v18.length false)), (12, (.i w1_1)), (32, (.slc (v12.map (fun l => AV.slc (l.map AV.i) l.length false)) v12.length false)), (33, (.i (((v12.length : Nat) : Int)))), (34, (.i w0_1)), (48, (.i p1)), (49, (.b true)), (50, (.b true)), (51, (.tree ((.node n24 n25 n26 n27 n28)))), (52, (.ptr [(.i n24), (.i n25), (.s n26), (.s n27), (.slc (n28.map AV.tree) n28.length false)])), (53, (.ptr [(.i n24), (.i n25), (.s n26), (.s n27), (.slc (n28.map AV.tree) n28.length false)])), (54, (.i n24)), (55, (.i p1)), (56, (.b ((!decide (n24 = p1))))), (57, (.b ((!decide (n24 = p1))))), (59, (.i w0_1)), (60, (.i w1_1)), (63, (.slc (v12.map (fun l => AV.slc (l.map AV.i) l.length false)) v12.length false)), (64, (.i w1_1))] rfl (by kernel_rfl) ?_
                obtain ⟨v34, hv34, h⟩ := bind_some' h
                refine at_one rfl rfl rfl (aop_idx1 (k := .i64) (g := (fun l => AV.slc (l.map AV.i) l.length false)) (l := v12) (fu := false) (j := w1_1) (v := v34) tt_ok rfl rfl rfl rfl rfl hv34) ?_
                refine at_run tt_ok 5 [(1, (.i p1)), (5, (.tree v3)), (7, (.slc (v12.map (fun l => AV.slc (l.map AV.i) l.length false)) v12.length false)), (9, (.slc (v18.map AV.i) v18.length false)), (12, (.i w1_1)), (32, (.slc (v12.map (fun l => AV.slc (l.map AV.i) l.length false)) v12.length false)), (33, (.i (((v12.length : Nat) : Int)))), (34, (.i w0_1)), (48, (.i p1)), (49, (.b true)), (50, (.b true)), (51, (.tree ((.node n24 n25 n26 n27 n28)))), (52, (.ptr [(.i n24), (.i n25), (.s n26), (.s n27), (.slc (n28.map AV.tree) n28.length false)])), (53, (.ptr [(.i n24), (.i n25), (.s n26), (.s n27), (.slc (n28.map AV.tree) n28.length false)])), (54, (.i n24)), (55, (.i p1)), (56, (.b ((!decide (n24 = p1))))), (57, (.b ((!decide (n24 = p1))))), (59, (.i w0_1)), (60, (.i w1_1)), (66, (.slc (v34.map AV.i) v34.length false)), (67, (.slc (v18.map AV.i) v18.length false))] rfl (by kernel_rfl) ?_
                obtain ⟨v35, hc36, h⟩ := bind_some' h
                refine at_op rfl rfl rfl (aop_call (first := []) (caps := []) (xs := [(.slc (v34.map AV.i) v34.length false), (.slc (v18.map AV.i) v18.length false)]) (args' := [(.slc (v34.map AV.i) v34.length false), (.slc (v18.map AV.i) v18.length false)]) (sm := []) (r := []) rfl (by kernel_rfl) Try.func30 rfl rfl (ref04_SamePath_ok k32 v34 v18 _ hc36) (by kernel_rfl) (VW.refl _) (permTo [] (by kernel_rfl))) ?_
                rintro _ _ ⟨_, ⟨rfl, rfl⟩, rfl⟩
                refine at_run tt_ok 7 [(1, (.i p1)), (5, (.tree v3)), (7, (.slc (v12.map (fun l => AV.slc (l.map AV.i) l.length false)) v12.length false)), (9, (.slc (v18.map AV.i) v18.length false)), (12, (.i w1_1)), (32, (.slc (v12.map (fun l => AV.slc (l.map AV.i) l.length false)) v12.length false)), (33, (.i (((v12.length : Nat) : Int)))), (34, (.i w0_1)), (48, (.i p1)), (49, (.b true)), (50, (.b true)), (51, (.tree ((.node n24 n25 n26 n27 n28)))), (52, (.ptr [(.i n24), (.i n25), (.s n26), (.s n27), (.slc (n28.map AV.tree) n28.length false)])), (53, (.ptr [(.i n24), (.i n25), (.s n26), (.s n27), (.slc (n28.map AV.tree) n28.length false)])), (54, (.i n24)), (55, (.i p1)), (56, (.b ((!decide (n24 = p1))))), (57, (.b ((!decide (n24 = p1))))), (59, (.i w0_1)), (60, (.i w1_1)), (69, (.b v35))] rfl (by kernel_rfl) ?_
                by_cases hb37 : v35 = true
                · have h := ite_t hb37 h
                  refine at_setb 69 rfl hb37 ?_
                  refine at_run tt_ok 27 [(1, (.i p1)), (5, (.tree v3)), (7, (.slc (v12.map (fun l => AV.slc (l.map AV.i) l.length false)) v12.length false)), (9, (.slc (v18.map AV.i) v18.length false)), (32, (.slc (v12.map (fun l => AV.slc (l.map AV.i) l.length false)) v12.length false)), (33, (.i (((v12.length : Nat) : Int)))), (34, (.i w0_1)), (48, (.i p1)), (49, (.b true)), (50, (.b true)), (51, (.tree ((.node n24 n25 n26 n27 n28)))), (52, (.ptr [(.i n24), (.i n25), (.s n26), (.s n27), (.slc (n28.map AV.tree) n28.length false)])), (53, (.ptr [(.i n24), (.i n25), (.s n26), (.s n27), (.slc (n28.map AV.tree) n28.length false)])), (54, (.i n24)), (55, (.i p1)), (56, (.b ((!decide (n24 = p1))))), (57, (.b ((!decide (n24 = p1))))), (59, (.i w0_1)), (60, (.i w1_1)), (89, (.b true))] rfl (by kernel_rfl) ?_
                  refine at_end rfl ?_
                  refine aw_cond true rfl (fun _ => ?_) (fun h => by cases h)
                  refine aw_seq ?_
                  refine aw_reg ?_
                  refine at_run tt_ok 1 [(4, (.b false))] rfl (by kernel_rfl) ?_
                  refine at_end rfl ?_
                  refine aw_ret ?_
                  obtain rfl := Option.some.inj h
                  exact ⟨(.b false), (.b false), _, (res_tmps (by kernel_rfl)), (View.refl _), ⟨_, perm_sel _ [], List.take_sublist 0 _⟩, rfl, rfl⟩
                · have h := ite_f hb37 h
                  refine at_setb 69 rfl (nott hb37) ?_
                  refine at_run tt_ok 9 [(1, (.i p1)), (5, (.tree v3)), (7, (.slc (v12.map (fun l => AV.slc (l.map AV.i) l.length false)) v12.length false)), (9, (.slc (v18.map AV.i) v18.length false)), (12, (.i w1_1)), (32, (.slc (v12.map (fun l => AV.slc (l.map AV.i) l.length false)) v12.length false)), (33, (.i (((v12.length : Nat) : Int)))), (34, (.i w0_1)), (48, (.i p1)), (49, (.b true)), (50, (.b true)), (51, (.tree ((.node n24 n25 n26 n27 n28)))), (52, (.ptr [(.i n24), (.i n25), (.s n26), (.s n27), (.slc (n28.map AV.tree) n28.length false)])), (53, (.ptr [(.i n24), (.i n25), (.s n26), (.s n27), (.slc (n28.map AV.tree) n28.length false)])), (54, (.i n24)), (55, (.i p1)), (56, (.b ((!decide (n24 = p1))))), (57, (.b ((!decide (n24 = p1))))), (59, (.i w0_1)), (60, (.i w1_1)), (69, (.b false)), (70, (.slc (v12.map (fun l => AV.slc (l.map AV.i) l.length false)) v12.length false)), (71, (.i w1_1))] rfl (by kernel_rfl) ?_
                  obtain ⟨v38, hv38, h⟩ := bind_some' h
                  refine at_one rfl rfl rfl (aop_idx1 (k := .i64) (g := (fun l => AV.slc (l.map AV.i) l.length false)) (l := v12) (fu := false) (j := w1_1) (v := v38) tt_ok rfl rfl rfl rfl rfl hv38) ?_
                  refine at_run tt_ok 16 [(1, (.i p1)), (5, (.tree v3)), (7, (.slc (v12.map (fun l => AV.slc (l.map AV.i) l.length false)) v12.length false)), (9, (.slc (v18.map AV.i) v18.length false)), (12, (.i w1_1)), (32, (.slc (v12.map (fun l => AV.slc (l.map AV.i) l.length false)) v12.length false)), (33, (.i (((v12.length : Nat) : Int)))), (34, (.i w0_1)), (48, (.i p1)), (49, (.b true)), (50, (.b true)), (51, (.tree ((.node n24 n25 n26 n27 n28)))), (52, (.ptr [(.i n24), (.i n25), (.s n26), (.s n27), (.slc (n28.map AV.tree) n28.length false)])), (53, (.ptr [(.i n24), (.i n25), (.s n26), (.s n27), (.slc (n28.map AV.tree) n28.length false)])), (54, (.i n24)), (55, (.i p1)), (56, (.b ((!decide (n24 = p1))))), (57, (.b ((!decide (n24 = p1))))), (59, (.i w0_1)), (60, (.i w1_1)), (69, (.b false)), (70, (.slc (v12.map (fun l => AV.slc (l.map AV.i) l.length false)) v12.length false)), (71, (.i w1_1)), (72, (.ptr [(.slc (v38.map AV.i) v38.length false)])), (73, (.slc (v38.map AV.i) v38.length false)), (74, (.i (((v38.length : Nat) : Int)))), (75, (.slc (v18.map AV.i) v18.length false)), (76, (.i (((v18.length : Nat) : Int)))), (77, (.b ((decide ((((v18.length : Nat) : Int)) < (((v38.length : Nat) : Int))))))), (78, (.b ((decide ((((v18.length : Nat) : Int)) < (((v38.length : Nat) : Int)))))))] rfl (by kernel_rfl) ?_
                  by_cases hb39 : (decide ((((v18.length : Nat) : Int)) < (((v38.length : Nat) : Int)))) = true
                  · have h := ite_t hb39 h
                    refine at_setb 77 rfl hb39 ?_
                    refine at_setb 78 rfl hb39 ?_
                    refine at_run tt_ok 18 [(1, (.i p1)), (5, (.tree v3)), (7, (.slc (v12.map (fun l => AV.slc (l.map AV.i) l.length false)) v12.length false)), (9, (.slc (v18.map AV.i) v18.length false)), (32, (.slc (v12.map (fun l => AV.slc (l.map AV.i) l.length false)) v12.length false)), (33, (.i (((v12.length : Nat) : Int)))), (34, (.i w0_1)), (48, (.i p1)), (49, (.b true)), (50, (.b true)), (51, (.tree ((.node n24 n25 n26 n27 n28)))), (52, (.ptr [(.i n24), (.i n25), (.s n26), (.s n27), (.slc (n28.map AV.tree) n28.length false)])), (53, (.ptr [(.i n24), (.i n25), (.s n26), (.s n27), (.slc (n28.map AV.tree) n28.length false)])), (54, (.i n24)), (55, (.i p1)), (56, (.b ((!decide (n24 = p1))))), (57, (.b ((!decide (n24 = p1))))), (59, (.i w0_1)), (60, (.i w1_1)), (69, (.b false)), (70, (.slc (v12.map (fun l => AV.slc (l.map AV.i) l.length false)) v12.length false)), (71, (.i w1_1)), (72, (.ptr [(.slc (v38.map AV.i) v38.length false)])), (73, (.slc (v38.map AV.i) v38.length false)), (74, (.i (((v38.length : Nat) : Int)))), (75, (.slc (v18.map AV.i) v18.length false)), (76, (.i (((v18.length : Nat) : Int)))), (77, (.b true)), (78, (.b true)), (79, (.slc (v12.map (fun l => AV.slc (l.map AV.i) l.length false)) v12.length false)), (80, (.i w1_1))] rfl (by kernel_rfl) ?_
                    obtain ⟨v40, hv40, h⟩ := bind_some' h
                    refine at_one rfl rfl rfl (aop_idx1 (k := .i64) (g := (fun l => AV.slc (l.map AV.i) l.length false)) (l := v12) (fu := false) (j := w1_1) (v := v40) tt_ok rfl rfl rfl rfl rfl hv40) ?_
                    refine at_run tt_ok 22 [(1, (.i p1)), (5, (.tree v3)), (7, (.slc (v12.map (fun l => AV.slc (l.map AV.i) l.length false)) v12.length false)), (9, (.slc (v18.map AV.i) v18.length false)), (32, (.slc (v12.map (fun l => AV.slc (l.map AV.i) l.length false)) v12.length false)), (33, (.i (((v12.length : Nat) : Int)))), (34, (.i w0_1)), (48, (.i p1)), (49, (.b true)), (50, (.b true)), (51, (.tree ((.node n24 n25 n26 n27 n28)))), (52, (.ptr [(.i n24), (.i n25), (.s n26), (.s n27), (.slc (n28.map AV.tree) n28.length false)])), (53, (.ptr [(.i n24), (.i n25), (.s n26), (.s n27), (.slc (n28.map AV.tree) n28.length false)])), (54, (.i n24)), (55, (.i p1)), (56, (.b ((!decide (n24 = p1))))), (57, (.b ((!decide (n24 = p1))))), (59, (.i w0_1)), (60, (.i w1_1)), (69, (.b false)), (70, (.slc (v12.map (fun l => AV.slc (l.map AV.i) l.length false)) v12.length false)), (71, (.i w1_1)), (72, (.ptr [(.slc (v38.map AV.i) v38.length false)])), (73, (.slc (v38.map AV.i) v38.length false)), (74, (.i (((v38.length : Nat) : Int)))), (75, (.slc (v18.map AV.i) v18.length false)), (76, (.i (((v18.length : Nat) : Int)))), (77, (.b true)), (78, (.b true)), (79, (.slc (v12.map (fun l => AV.slc (l.map AV.i) l.length false)) v12.length false)), (80, (.i w1_1)), (81, (.ptr [(.slc (v40.map AV.i) v40.length false)])), (82, (.slc (v40.map AV.i) v40.length false)), (83, (.slc (v18.map AV.i) v18.length false)), (84, (.i (((v18.length : Nat) : Int))))] rfl (by kernel_rfl) ?_
                    obtain ⟨v41, hv41, h⟩ := bind_some' h
                    refine at_one rfl rfl rfl (aop_sub1 (g := AV.i) (l := v40) (fu := false) (a1 := 0) (b1 := ((v18.length : Nat) : Int)) (v := v41) tt_ok hv41 rfl rfl rfl rfl rfl rfl) ?_
                    refine at_run tt_ok 24 [(1, (.i p1)), (5, (.tree v3)), (7, (.slc (v12.map (fun l => AV.slc (l.map AV.i) l.length false)) v12.length false)), (9, (.slc (v18.map AV.i) v18.length false)), (32, (.slc (v12.map (fun l => AV.slc (l.map AV.i) l.length false)) v12.length false)), (33, (.i (((v12.length : Nat) : Int)))), (34, (.i w0_1)), (48, (.i p1)), (49, (.b true)), (50, (.b true)), (51, (.tree ((.node n24 n25 n26 n27 n28)))), (52, (.ptr [(.i n24), (.i n25), (.s n26), (.s n27), (.slc (n28.map AV.tree) n28.length false)])), (53, (.ptr [(.i n24), (.i n25), (.s n26), (.s n27), (.slc (n28.map AV.tree) n28.length false)])), (54, (.i n24)), (55, (.i p1)), (56, (.b ((!decide (n24 = p1))))), (57, (.b ((!decide (n24 = p1))))), (59, (.i w0_1)), (60, (.i w1_1)), (69, (.b false)), (70, (.slc (v12.map (fun l => AV.slc (l.map AV.i) l.length false)) v12.length false)), (71, (.i w1_1)), (72, (.ptr [(.slc (v38.map AV.i) v38.length false)])), (73, (.slc (v38.map AV.i) v38.length false)), (74, (.i (((v38.length : Nat) : Int)))), (75, (.slc (v18.map AV.i) v18.length false)), (76, (.i (((v18.length : Nat) : Int)))), (77, (.b true)), (78, (.b true)), (79, (.slc (v12.map (fun l => AV.slc (l.map AV.i) l.length false)) v12.length false)), (80, (.i w1_1)), (81, (.ptr [(.slc (v40.map AV.i) v40.length false)])), (82, (.slc (v40.map AV.i) v40.length false)), (83, (.slc (v18.map AV.i) v18.length false)), (84, (.i (((v18.length : Nat) : Int)))), (85, (.slc (v41.map AV.i) v41.length false)), (86, (.slc (v18.map AV.i) v18.length false))] rfl (by kernel_rfl) ?_
                    obtain ⟨v42, hc43, h⟩ := bind_some' h
                    refine at_op rfl rfl rfl (aop_call (first := []) (caps := []) (xs := [(.slc (v41.map AV.i) v41.length false), (.slc (v18.map AV.i) v18.length false)]) (args' := [(.slc (v41.map AV.i) v41.length false), (.slc (v18.map AV.i) v18.length false)]) (sm := []) (r := []) rfl (by kernel_rfl) Try.func30 rfl rfl (ref04_SamePath_ok k32 v41 v18 _ hc43) (by kernel_rfl) (VW.refl _) (permTo [] (by kernel_rfl))) ?_
                    rintro _ _ ⟨_, ⟨rfl, rfl⟩, rfl⟩
                    refine at_run tt_ok 27 [(1, (.i p1)), (5, (.tree v3)), (7, (.slc (v12.map (fun l => AV.slc (l.map AV.i) l.length false)) v12.length false)), (9, (.slc (v18.map AV.i) v18.length false)), (32, (.slc (v12.map (fun l => AV.slc (l.map AV.i) l.length false)) v12.length false)), (33, (.i (((v12.length : Nat) : Int)))), (34, (.i w0_1)), (48, (.i p1)), (49, (.b true)), (50, (.b true)), (51, (.tree ((.node n24 n25 n26 n27 n28)))), (52, (.ptr [(.i n24), (.i n25), (.s n26), (.s n27), (.slc (n28.map AV.tree) n28.length false)])), (53, (.ptr [(.i n24), (.i n25), (.s n26), (.s n27), (.slc (n28.map AV.tree) n28.length false)])), (54, (.i n24)), (55, (.i p1)), (56, (.b ((!decide (n24 = p1))))), (57, (.b ((!decide (n24 = p1))))), (59, (.i w0_1)), (60, (.i w1_1)), (70, (.slc (v12.map (fun l => AV.slc (l.map AV.i) l.length false)) v12.length false)), (71, (.i w1_1)), (72, (.ptr [(.slc (v38.map AV.i) v38.length false)])), (73, (.slc (v38.map AV.i) v38.length false)), (74, (.i (((v38.length : Nat) : Int)))), (75, (.slc (v18.map AV.i) v18.length false)), (76, (.i (((v18.length : Nat) : Int)))), (77, (.b true)), (78, (.b true)), (79, (.slc (v12.map (fun l => AV.slc (l.map AV.i) l.length false)) v12.length false)), (80, (.i w1_1)), (81, (.ptr [(.slc (v40.map AV.i) v40.length false)])), (82, (.slc (v40.map AV.i) v40.length false)), (83, (.slc (v18.map AV.i) v18.length false)), (84, (.i (((v18.length : Nat) : Int)))), (85, (.slc (v41.map AV.i) v41.length false)), (86, (.slc (v18.map AV.i) v18.length false)), (87, (.b v42)), (88, (.b v42)), (89, (.b v42))] rfl (by kernel_rfl) ?_
                    refine at_end rfl ?_
                    refine aw_cond v42 rfl (fun hb44 => ?_) (fun hb44 => ?_)
                    · have h := ite_t hb44 h
                      refine aw_seq ?_
                      refine aw_reg ?_
                      refine at_run tt_ok 1 [(4, (.b false))] rfl (by kernel_rfl) ?_
                      refine at_end rfl ?_
                      refine aw_ret ?_
                      obtain rfl := Option.some.inj h
                      exact ⟨(.b false), (.b false), _, (res_tmps (by kernel_rfl)), (View.refl _), ⟨_, perm_sel _ [], List.take_sublist 0 _⟩, rfl, rfl⟩
                    · have h := ite_f (by rw [hb44]; simp) h
                      refine aw_skip ?_
                      refine aw_reg ?_
                      refine at_run tt_ok 2 [(1, (.i p1)), (5, (.tree v3)), (7, (.slc (v12.map (fun l => AV.slc (l.map AV.i) l.length false)) v12.length false)), (9, (.slc (v18.map AV.i) v18.length false)), (32, (.slc (v12.map (fun l => AV.slc (l.map AV.i) l.length false)) v12.length false)), (33, (.i (((v12.length : Nat) : Int)))), (34, (.i w0_1)), (48, (.i p1)), (49, (.b true)), (50, (.b true)), (51, (.tree ((.node n24 n25 n26 n27 n28)))), (52, (.ptr [(.i n24), (.i n25), (.s n26), (.s n27), (.slc (n28.map AV.tree) n28.length false)])), (53, (.ptr [(.i n24), (.i n25), (.s n26), (.s n27), (.slc (n28.map AV.tree) n28.length false)])), (54, (.i n24)), (55, (.i p1)), (56, (.b ((!decide (n24 = p1))))), (57, (.b ((!decide (n24 = p1))))), (59, (.i w0_1)), (60, (.i ((IntKind.i64.wrap (w1_1 + 1))))), (70, (.slc (v12.map (fun l => AV.slc (l.map AV.i) l.length false)) v12.length false)), (71, (.i w1_1)), (72, (.ptr [(.slc (v38.map AV.i) v38.length false)])), (73, (.slc (v38.map AV.i) v38.length false)), (74, (.i (((v38.length : Nat) : Int)))), (75, (.slc (v18.map AV.i) v18.length false)), (76, (.i (((v18.length : Nat) : Int)))), (77, (.b true)), (78, (.b true)), (79, (.slc (v12.map (fun l => AV.slc (l.map AV.i) l.length false)) v12.length false)), (80, (.i w1_1)), (81, (.ptr [(.slc (v40.map AV.i) v40.length false)])), (82, (.slc (v40.map AV.i) v40.length false)), (83, (.slc (v18.map AV.i) v18.length false)), (84, (.i (((v18.length : Nat) : Int)))), (85, (.slc (v41.map AV.i) v41.length false)), (86, (.slc (v18.map AV.i) v18.length false)), (87, (.b v42)), (88, (.b v42))] rfl (by kernel_rfl) ?_
                      refine at_end rfl ?_
                      exact ⟨k32, (IntKind.i64.wrap (w1_1 + 1)), [], [], by omega, ⟨by omega, h⟩, by kernel_rfl, rfl⟩
                  · have h := ite_f hb39 h
                    refine at_setb 77 rfl (nott hb39) ?_
                    refine at_setb 78 rfl (nott hb39) ?_
                    refine at_run tt_ok 27 [(1, (.i p1)), (5, (.tree v3)), (7, (.slc (v12.map (fun l => AV.slc (l.map AV.i) l.length false)) v12.length false)), (9, (.slc (v18.map AV.i) v18.length false)), (32, (.slc (v12.map (fun l => AV.slc (l.map AV.i) l.length false)) v12.length false)), (33, (.i (((v12.length : Nat) : Int)))), (34, (.i w0_1)), (48, (.i p1)), (49, (.b true)), (50, (.b true)), (51, (.tree ((.node n24 n25 n26 n27 n28)))), (52, (.ptr [(.i n24), (.i n25), (.s n26), (.s n27), (.slc (n28.map AV.tree) n28.length false)])), (53, (.ptr [(.i n24), (.i n25), (.s n26), (.s n27), (.slc (n28.map AV.tree) n28.length false)])), (54, (.i n24)), (55, (.i p1)), (56, (.b ((!decide (n24 = p1))))), (57, (.b ((!decide (n24 = p1))))), (59, (.i w0_1)), (60, (.i w1_1)), (70, (.slc (v12.map (fun l => AV.slc (l.map AV.i) l.length false)) v12.length false)), (71, (.i w1_1)), (72, (.ptr [(.slc (v38.map AV.i) v38.length false)])), (73, (.slc (v38.map AV.i) v38.length false)), (74, (.i (((v38.length : Nat) : Int)))), (75, (.slc (v18.map AV.i) v18.length false)), (76, (.i (((v18.length : Nat) : Int)))), (77, (.b false)), (78, (.b false)), (88, (.b false)), (89, (.b false))] rfl (by kernel_rfl) ?_
                    refine at_end rfl ?_
                    refine aw_cond false rfl (fun h => by cases h) (fun _ => ?_)
                    refine aw_skip ?_
                    refine aw_reg ?_
                    refine at_run tt_ok 2 [(1, (.i p1)), (5, (.tree v3)), (7, (.slc (v12.map (fun l => AV.slc (l.map AV.i) l.length false)) v12.length false)), (9, (.slc (v18.map AV.i) v18.length false)), (32, (.slc (v12.map (fun l => AV.slc (l.map AV.i) l.length false)) v12.length false)), (33, (.i (((v12.length : Nat) : Int)))), (34, (.i w0_1)), (48, (.i p1)), (49, (.b true)), (50, (.b true)), (51, (.tree ((.node n24 n25 n26 n27 n28)))), (52, (.ptr [(.i n24), (.i n25), (.s n26), (.s n27), (.slc (n28.map AV.tree) n28.length false)])), (53, (.ptr [(.i n24), (.i n25), (.s n26), (.s n27), (.slc (n28.map AV.tree) n28.length false)])), (54, (.i n24)), (55, (.i p1)), (56, (.b ((!decide (n24 = p1))))), (57, (.b ((!decide (n24 = p1))))), (59, (.i w0_1)), (60, (.i ((IntKind.i64.wrap (w1_1 + 1))))), (70, (.slc (v12.map (fun l => AV.slc (l.map AV.i) l.length false)) v12.length false)), (71, (.i w1_1)), (72, (.ptr [(.slc (v38.map AV.i) v38.length false)])), (73, (.slc (v38.map AV.i) v38.length false)), (74, (.i (((v38.length : Nat) : Int)))), (75, (.slc (v18.map AV.i) v18.length false)), (76, (.i (((v18.length : Nat) : Int)))), (77, (.b false)), (78, (.b false)), (88, (.b false))] rfl (by kernel_rfl) ?_
                    refine at_end rfl ?_
                    exact ⟨k32, (IntKind.i64.wrap (w1_1 + 1)), [], [], by omega, ⟨by omega, h⟩, by kernel_rfl, rfl⟩
              · have h := ite_f (by rw [hb33]; simp) h
                refine aw_exit ?_
                refine aw_reg ?_
                refine at_run tt_ok 2 [(1, (.i p1)), (5, (.tree v3)), (7, (.slc (v12.map (fun l => AV.slc (l.map AV.i) l.length false)) v12.length false)), (32, (.slc (v12.map (fun l => AV.slc (l.map AV.i) l.length false)) v12.length false)), (33, (.i (((v12.length : Nat) : Int)))), (34, (.i ((IntKind.i64.wrap (w0_1 + 1))))), (48, (.i p1)), (49, (.b true)), (50, (.b true)), (51, (.tree ((.node n24 n25 n26 n27 n28)))), (52, (.ptr [(.i n24), (.i n25), (.s n26), (.s n27), (.slc (n28.map AV.tree) n28.length false)])), (53, (.ptr [(.i n24), (.i n25), (.s n26), (.s n27), (.slc (n28.map AV.tree) n28.length false)])), (54, (.i n24)), (55, (.i p1)), (56, (.b ((!decide (n24 = p1))))), (57, (.b ((!decide (n24 = p1)))))] rfl (by kernel_rfl) ?_
                refine at_end rfl ?_
                exact ⟨k32, (IntKind.i64.wrap (w0_1 + 1)), [], [], by omega, ⟨by omega, h⟩, by kernel_rfl, rfl⟩
        · have h := ite_f hb23 h
          refine at_setb 49 rfl (nott hb23) ?_
          refine at_setb 50 rfl (nott hb23) ?_
          refine at_run tt_ok 14 [(1, (.i p1)), (5, (.tree v3)), (7, (.slc (v12.map (fun l => AV.slc (l.map AV.i) l.length false)) v12.length false)), (8, (.i w0_1)), (9, (.slc (v18.map AV.i) v18.length false)), (32, (.slc (v12.map (fun l => AV.slc (l.map AV.i) l.length false)) v12.length false)), (33, (.i (((v12.length : Nat) : Int)))), (34, (.i w0_1)), (48, (.i p1)), (49, (.b false)), (50, (.b false)), (57, (.b false)), (58, (.b false))] rfl (by kernel_rfl) ?_
          refine at_end rfl ?_
          refine aw_cond false rfl (fun h => by cases h) (fun _ => ?_)
          refine aw_skip ?_
          refine aw_seq ?_
          refine aw_reg ?_
          refine at_run tt_ok 2 [(1, (.i p1)), (5, (.tree v3)), (7, (.slc (v12.map (fun l => AV.slc (l.map AV.i) l.length false)) v12.length false)), (9, (.slc (v18.map AV.i) v18.length false)), (32, (.slc (v12.map (fun l => AV.slc (l.map AV.i) l.length false)) v12.length false)), (33, (.i (((v12.length : Nat) : Int)))), (34, (.i w0_1)), (48, (.i p1)), (49, (.b false)), (50, (.b false)), (57, (.b false)), (59, (.i w0_1)), (60, (.i 0))] rfl (by kernel_rfl) ?_
          refine at_end rfl ?_
          refine aw_block ?_
          refine aw_loop_ind' (X := Int) (fun k' x => k' ≤ k16 ∧ law04_ArenaNodes_l2 k' p1 v3 v12 w0_1 v18 x = some r) (fun x => [(1, (.i p1)), (5, (.tree v3)), (7, (.slc (v12.map (fun l => AV.slc (l.map AV.i) l.length false)) v12.length false)), (9, (.slc (v18.map AV.i) v18.length false)), (32, (.slc (v12.map (fun l => AV.slc (l.map AV.i) l.length false)) v12.length false)), (33, (.i (((v12.length : Nat) : Int)))), (34, (.i w0_1)), (48, (.i p1)), (49, (.b false)), (50, (.b false)), (57, (.b false)), (59, (.i w0_1)), (60, (.i x))]) (fun x => []) (fun x hx => by cases hx.2) ?_ k16 0 ⟨Nat.le_refl _, h⟩ (by kernel_rfl) rfl
          clear h
          rintro k47 w2_1 ⟨hlek47, h⟩
          refine aw_seq ?_
          refine aw_reg ?_
          refine at_run tt_ok 1 [(1, (.i p1)), (5, (.tree v3)), (7, (.slc (v12.map (fun l => AV.slc (l.map AV.i) l.length false)) v12.length false)), (9, (.slc (v18.map AV.i) v18.length false)), (32, (.slc (v12.map (fun l => AV.slc (l.map AV.i) l.length false)) v12.length false)), (33, (.i (((v12.length : Nat) : Int)))), (34, (.i w0_1)), (48, (.i p1)), (49, (.b false)), (50, (.b false)), (57, (.b false)), (59, (.i w0_1)), (60, (.i w2_1)), (61, (.b ((decide (w2_1 < w0_1)))))] rfl (by kernel_rfl) ?_
          refine at_end rfl ?_
          refine aw_seq ?_
          refine aw_cond ((decide (w2_1 < w0_1))) rfl (fun hb48 => ?_) (fun hb48 => ?_)
          · have h := ite_t hb48 h
            refine aw_skip ?_
            refine aw_seq ?_
            refine aw_block ?_
            refine aw_seq ?_
            refine aw_reg ?_
            refine at_run tt_ok 2 [(1, (.i p1)), (5, (.tree v3)), (7, (.slc (v12.map (fun l => AV.slc (l.map AV.i) l.length false)) v12.length false)), (9, (.slc (v18.map AV.i) v18.length false)), (12, (.i w2_1)), (32, (.slc (v12.map (fun l => AV.slc (l.map AV.i) l.length false)) v12.length false)), (33, (.i (((v12.length : Nat) : Int)))), (34, (.i w0_1)), (48, (.i p1)), (49, (.b false)), (50, (.b false)), (57, (.b false)), (59, (.i w0_1)), (60, (.i w2_1))] rfl (by kernel_rfl) ?_
            refine at_end rfl ?_
            refine aw_seq ?_
            refine aw_reg ?_
            refine at_run tt_ok 2 [(1, (.i p1)), (5, (.tree v3)), (7, (.slc (v12.map (fun l => AV.slc (l.map AV.i) l.length false)) v12.length false)), (9, (.slc (v18.map AV.i) v18.length false)), (12, (.i w2_1)), (32, (.slc (v12.map (fun l => AV.slc (l.map AV.i) l.length false)) v12.length false)), (33, (.i (((v12.length : Nat) : Int)))), (34, (.i w0_1)), (48, (.i p1)), (49, (.b false)), (50, (.b false)), (57, (.b false)), (59, (.i w0_1)), (60, (.i w2_1)), (63, (.slc (v12.map (fun l => AV.slc (l.map AV.i) l.length false)) v12.length false)), (64, (.i w2_1))] rfl (by kernel_rfl) ?_
            obtain ⟨v49, hv49, h⟩ := bind_some' h
            refine at_one rfl rfl rfl (aop_idx1 (k := .i64) (g := (fun l => AV.slc (l.map AV.i) l.length false)) (l := v12) (fu := false) (j := w2_1) (v := v49) tt_ok rfl rfl rfl rfl rfl hv49) ?_
            refine at_run tt_ok 5 [(1, (.i p1)), (5, (.tree v3)), (7, (.slc (v12.map (fun l => AV.slc (l.map AV.i) l.length false)) v12.length false)), (9, (.slc (v18.map AV.i) v18.length false)), (12, (.i w2_1)), (32, (.slc (v12.map (fun l => AV.slc (l.map AV.i) l.length false)) v12.length false)), (33, (.i (((v12.length : Nat) : Int)))), (34, (.i w0_1)), (48, (.i p1)), (49, (.b false)), (50, (.b false)), (57, (.b false)), (59, (.i w0_1)), (60, (.i w2_1)), (66, (.slc (v49.map AV.i) v49.length false)), (67, (.slc (v18.map AV.i) v18.length false))] rfl (by kernel_rfl) ?_
            obtain ⟨v50, hc51, h⟩ := bind_some' h
            refine at_op rfl rfl rfl (aop_call (first := []) (caps := []) (xs := [(.slc (v49.map AV.i) v49.length false), (.slc (v18.map AV.i) v18.length false)]) (args' := [(.slc (v49.map AV.i) v49.length false), (.slc (v18.map AV.i) v18.length false)]) (sm := []) (r := []) rfl (by kernel_rfl) Try.func30 rfl rfl (ref04_SamePath_ok k47 v49 v18 _ hc51) (by kernel_rfl) (VW.refl _) (permTo [] (by kernel_rfl))) ?_
            rintro _ _ ⟨_, ⟨rfl, rfl⟩, rfl⟩
            refine at_run tt_ok 7 [(1, (.i p1)), (5, (.tree v3)), (7, (.slc (v12.map (fun l => AV.slc (l.map AV.i) l.length false)) v12.length false)), (9, (.slc (v18.map AV.i) v18.length false)), (12, (.i w2_1)), (32, (.slc (v12.map (fun l => AV.slc (l.map AV.i) l.length false)) v12.length false)), (33, (.i (((v12.length : Nat) : Int)))), (34, (.i w0_1)), (48, (.i p1)), (49, (.b false)), (50, (.b false)), (57, (.b false)), (59, (.i w0_1)), (60, (.i w2_1)), (69, (.b v50))] rfl (by kernel_rfl) ?_
            by_cases hb52 : v50 = true
            · have h := ite_t hb52 h
              refine at_setb 69 rfl hb52 ?_
              refine at_run tt_ok 27 [(1, (.i p1)), (5, (.tree v3)), (7, (.slc (v12.map (fun l => AV.slc (l.map AV.i) l.length false)) v12.length false)), (9, (.slc (v18.map AV.i) v18.length false)), (32, (.slc (v12.map (fun l => AV.slc (l.map AV.i) l.length false)) v12.length false)), (33, (.i (((v12.length : Nat) : Int)))), (34, (.i w0_1)), (48, (.i p1)), (49, (.b false)), (50, (.b false)), (57, (.b false)), (59, (.i w0_1)), (60, (.i w2_1)), (89, (.b true))] rfl (by kernel_rfl) ?_
              refine at_end rfl ?_
              refine aw_cond true rfl (fun _ => ?_) (fun h => by cases h)
              refine aw_seq ?_
              refine aw_reg ?_
              refine at_run tt_ok 1 [(4, (.b false))] rfl (by kernel_rfl) ?_
              refine at_end rfl ?_
              refine aw_ret ?_
              obtain rfl := Option.some.inj h
              exact ⟨(.b false), (.b false), _, (res_tmps (by kernel_rfl)), (View.refl _), ⟨_, perm_sel _ [], List.take_sublist 0 _⟩, rfl, rfl⟩
            · have h := ite_f hb52 h
              refine at_setb 69 rfl (nott hb52) ?_
              refine at_run tt_ok 9 [(1, (.i p1)), (5, (.tree v3)), (7, (.slc (v12.map (fun l => AV.slc (l.map AV.i) l.length false)) v12.length false)), (9, (.slc (v18.map AV.i) v18.length false)), (12, (.i w2_1)), (32, (.slc (v12.map (fun l => AV.slc (l.map AV.i) l.length false)) v12.length false)), (33, (.i (((v12.length : Nat) : Int)))), (34, (.i w0_1)), (48, (.i p1)), (49, (.b false)), (50, (.b false)), (57, (.b false)), (59, (.i w0_1)), (60, (.i w2_1)), (69, (.b false)), (70, (.slc (v12.map (fun l => AV.slc (l.map AV.i) l.length false)) v12.length false)), (71, (.i w2_1))] rfl (by kernel_rfl) ?_
              obtain ⟨v53, hv53, h⟩ := bind_some' h
              refine at_one rfl rfl rfl (aop_idx1 (k := .i64) (g := (fun l => AV.slc (l.map AV.i) l.length false)) (l := v12) (fu := false) (j := w2_1) (v := v53) tt_ok rfl rfl rfl rfl rfl hv53) ?_
              refine at_run tt_ok 16 [(1, (.i p1)), (5, (.tree v3)), (7, (.slc (v12.map (fun l => AV.slc (l.map AV.i) l.length false)) v12.length false)), (9, (.slc (v18.map AV.i) v18.length false)), (12, (.i w2_1)), (32, (.slc (v12.map (fun l => AV.slc (l.map AV.i) l.length false)) v12.length false)), (33, (.i (((v12.length : Nat) : Int)))), (34, (.i w0_1)), (48, (.i p1)), (49, (.b false)), (50, (.b false)), (57, (.b false)), (59, (.i w0_1)), (60, (.i w2_1)), (69, (.b false)), (70, (.slc (v12.map (fun l => AV.slc (l.map AV.i) l.length false)) v12.length false)), (71, (.i w2_1)), (72, (.ptr [(.slc (v53.map AV.i) v53.length false)])), (73, (.slc (v53.map AV.i) v53.length false)), (74, (.i (((v53.length : Nat) : Int)))), (75, (.slc (v18.map AV.i) v18.length false)), (76, (.i (((v18.length : Nat) : Int)))), (77, (.b ((decide ((((v18.length : Nat) : Int)) < (((v53.length : Nat) : Int))))))), (78, (.b ((decide ((((v18.length : Nat) : Int)) < (((v53.length : Nat) : Int)))))))] rfl (by kernel_rfl) ?_
              by_cases hb54 : (decide ((((v18.length : Nat) : Int)) < (((v53.length : Nat) : Int)))) = true
              · have h := ite_t hb54 h
                refine at_setb 77 rfl hb54 ?_
                refine at_setb 78 rfl hb54 ?_
                refine at_run tt_ok 18 [(1, (.i p1)), (5, (.tree v3)), (7, (.slc (v12.map (fun l => AV.slc (l.map AV.i) l.length false)) v12.length false)), (9, (.slc (v18.map AV.i) v18.length false)), (32, (.slc (v12.map (fun l => AV.slc (l.map AV.i) l.length false)) v12.length false)), (33, (.i (((v12.length : Nat) : Int)))), (34, (.i w0_1)), (48, (.i p1)), (49, (.b false)), (50, (.b false)), (57, (.b false)), (59, (.i w0_1)), (60, (.i w2_1)), (69, (.b false)), (70, (.slc (v12.map (fun l => AV.slc (l.map AV.i) l.length false)) v12.length false)), (71, (.i w2_1)), (72, (.ptr [(.slc (v53.map AV.i) v53.length false)])), (73, (.slc (v53.map AV.i) v53.length false)), (74, (.i (((v53.length : Nat) : Int)))), (75, (.slc (v18.map AV.i) v18.length false)), (76, (.i (((v18.length : Nat) : Int)))), (77, (.b true)), (78, (.b true)), (79, (.slc (v12.map (fun l => AV.slc (l.map AV.i) l.length false)) v12.length false)), (80, (.i w2_1))] rfl (by kernel_rfl) ?_
                obtain ⟨v55, hv55, h⟩ := bind_some' h
                refine at_one rfl rfl rfl (aop_idx1 (k := .i64) (g := (fun l => AV.slc (l.map AV.i) l.length false)) (l := v12) (fu := false) (j := w2_1) (v := v55) tt_ok rfl rfl rfl rfl rfl hv55) ?_
                refine at_run tt_ok 22 [(1, (.i p1)), (5, (.tree v3)), (7, (.slc (v12.map (fun l => AV.slc (l.map AV.i) l.length false)) v12.length false)), (9, (.slc (v18.map AV.i) v18.length false)), (32, (.slc (v12.map (fun l => AV.slc (l.map AV.i) l.length false)) v12.length false)), (33, (.i (((v12.length : Nat) : Int)))), (34, (.i w0_1)), (48, (.i p1)), (49, (.b false)), (50, (.b false)), (57, (.b false)), (59, (.i w0_1)), (60, (.i w2_1)), (69, (.b false)), (70, (.slc (v12.map (fun l => AV.slc (l.map AV.i) l.length false)) v12.length false)), (71, (.i w2_1)), (72, (.ptr [(.slc (v53.map AV.i) v53.length false)])), (73, (.slc (v53.map AV.i) v53.length false)), (74, (.i (((v53.length : Nat) : Int)))), (75, (.slc (v18.map AV.i) v18.length false)), (76, (.i (((v18.length : Nat) : Int)))), (77, (.b true)), (78, (.b true)), (79, (.slc (v12.map (fun l => AV.slc (l.map AV.i) l.length false)) v12.length false)), (80, (.i w2_1)), (81, (.ptr [(.slc (v55.map AV.i) v55.length false)])), (82, (.slc (v55.map AV.i) v55.length false)), (83, (.slc (v18.map AV.i) v18.length false)), (84, (.i (((v18.length : Nat) : Int))))] rfl (by kernel_rfl) ?_
                obtain ⟨v56, hv56, h⟩ := bind_some' h
                refine at_one rfl rfl rfl (aop_sub1 (g := AV.i) (l := v55) (fu := false) (a1 := 0) (b1 := ((v18.length : Nat) : Int)) (v := v56) tt_ok hv56 rfl rfl rfl rfl rfl rfl) ?_
                refine at_run tt_ok 24 [(1, (.i p1)), (5, (.tree v3)), (7, (.slc (v12.map (fun l => AV.slc (l.map AV.i) l.length false)) v12.length false)), (9, (.slc (v18.map AV.i) v18.length false)), (32, (.slc (v12.map (fun l => AV.slc (l.map AV.i) l.length false)) v12.length false)), (33, (.i (((v12.length : Nat) : Int)))), (34, (.i w0_1)), (48, (.i p1)), (49, (.b false)), (50, (.b false)), (57, (.b false)), (59, (.i w0_1)), (60, (.i w2_1)), (69, (.b false)), (70, (.slc (v12.map (fun l => AV.slc (l.map AV.i) l.length false)) v12.length false)), (71, (.i w2_1)), (72, (.ptr [(.slc (v53.map AV.i) v53.length false)])), (73, (.slc (v53.map AV.i) v53.length false)), (74, (.i (((v53.length : Nat) : Int)))), (75, (.slc (v18.map AV.i) v18.length false)), (76, (.i (((v18.length : Nat) : Int)))), (77, (.b true)), (78, (.b true)), (79, (.slc (v12.map (fun l => AV.slc (l.map AV.i) l.length false)) v12.length false)), (80, (.i w2_1)), (81, (.ptr [(.slc (v55.map AV.i) v55.length false)])), (82, (.slc (v55.map AV.i) v55.length false)), (83, (.slc (v18.map AV.i) v18.length false)), (84, (.i (((v18.length : Nat) : Int)))), (85, (.slc (v56.map AV.i) v56.length false)), (86, (.slc (v18.map AV.i) v18.length false))] rfl (by kernel_rfl) ?_
                obtain ⟨v57, hc58, h⟩ := bind_some' h
                refine at_op rfl rfl rfl (aop_call (first := []) (caps := []) (xs := [(.slc (v56.map AV.i) v56.length false), (.slc (v18.map AV.i) v18.length false)]) (args' := [(.slc (v56.map AV.i) v56.length false), (.slc (v18.map AV.i) v18.length false)]) (sm := []) (r := []) rfl (by kernel_rfl) Try.func30 rfl rfl (ref04_SamePath_ok k47 v56 v18 _ hc58) (by kernel_rfl) (VW.refl _) (permTo [] (by kernel_rfl))) ?_
                rintro _ _ ⟨_, ⟨rfl, rfl⟩, rfl⟩
                refine at_run tt_ok 27 [(1, (.i p1)), (5, (.tree v3)), (7, (.slc (v12.map (fun l => AV.slc (l.map AV.i) l.length false)) v12.length false)), (9, (.slc (v18.map AV.i) v18.length false)), (32, (.slc (v12.map (fun l => AV.slc (l.map AV.i) l.length false)) v12.length false)), (33, (.i (((v12.length : Nat) : Int)))), (34, (.i w0_1)), (48, (.i p1)), (49, (.b false)), (50, (.b false)), (57, (.b false)), (59, (.i w0_1)), (60, (.i w2_1)), (70, (.slc (v12.map (fun l => AV.slc (l.map AV.i) l.length false)) v12.length false)), (71, (.i w2_1)), (72, (.ptr [(.slc (v53.map AV.i) v53.length false)])), (73, (.slc (v53.map AV.i) v53.length false)), (74, (.i (((v53.length : Nat) : Int)))), (75, (.slc (v18.map AV.i) v18.length false)), (76, (.i (((v18.length : Nat) : Int)))), (77, (.b true)), (78, (.b true)), (79, (.slc (v12.map (fun l => AV.slc (l.map AV.i) l.length false)) v12.length false)), (80, (.i w2_1)), (81, (.ptr [(.slc (v55.map AV.i) v55.length false)])), (82, (.slc (v55.map AV.i) v55.length false)), (83, (.slc (v18.map AV.i) v18.length false)), (84, (.i (((v18.length : Nat) : Int)))), (85, (.slc (v56.map AV.i) v56.length false)), (86, (.slc (v18.map AV.i) v18.length false)), (87, (.b v57)), (88, (.b v57)), (89, (.b v57))] rfl (by kernel_rfl) ?_
                refine at_end rfl ?_
                refine aw_cond v57 rfl (fun hb59 => ?_) (fun hb59 => ?_)
                · have h := ite_t hb59 h
                  refine aw_seq ?_
                  refine aw_reg ?_
                  refine at_run tt_ok 1 [(4, (.b false))] rfl (by kernel_rfl) ?_
                  refine at_end rfl ?_
                  refine aw_ret ?_
                  obtain rfl := Option.some.inj h
                  exact ⟨(.b false), (.b false), _, (res_tmps (by kernel_rfl)), (View.refl _), ⟨_, perm_sel _ [], List.take_sublist 0 _⟩, rfl, rfl⟩
                · have h := ite_f (by rw [hb59]; simp) h
                  refine aw_skip ?_
                  refine aw_reg ?_
                  refine at_run tt_ok 2 [(1, (.i p1)), (5, (.tree v3)), (7, (.slc (v12.map (fun l => AV.slc (l.map AV.i) l.length false)) v12.length false)), (9, (.slc (v18.map AV.i) v18.length false)), (32, (.slc (v12.map (fun l => AV.slc (l.map AV.i) l.length false)) v12.length false)), (33, (.i (((v12.length : Nat) : Int)))), (34, (.i w0_1)), (48, (.i p1)), (49, (.b false)), (50, (.b false)), (57, (.b false)), (59, (.i w0_1)), (60, (.i ((IntKind.i64.wrap (w2_1 + 1))))), (70, (.slc (v12.map (fun l => AV.slc (l.map AV.i) l.length false)) v12.length false)), (71, (.i w2_1)), (72, (.ptr [(.slc (v53.map AV.i) v53.length false)])), (73, (.slc (v53.map AV.i) v53.length false)), (74, (.i (((v53.length : Nat) : Int)))), (75, (.slc (v18.map AV.i) v18.length false)), (76, (.i (((v18.length : Nat) : Int)))), (77, (.b true)), (78, (.b true)), (79, (.slc (v12.map (fun l => AV.slc (l.map AV.i) l.length false)) v12.length false)), (80, (.i w2_1)), (81, (.ptr [(.slc (v55.map AV.i) v55.length false)])), (82, (.slc (v55.map AV.i) v55.length false)), (83, (.slc (v18.map AV.i) v18.length false)), (84, (.i (((v18.length : Nat) : Int)))), (85, (.slc (v56.map AV.i) v56.length false)), (86, (.slc (v18.map AV.i) v18.length false)), (87, (.b v57)), (88, (.b v57))] rfl (by kernel_rfl) ?_
                  refine at_end rfl ?_
                  exact ⟨k47, (IntKind.i64.wrap (w2_1 + 1)), [], [], by omega, ⟨by omega, h⟩, by kernel_rfl, rfl⟩
              · have h := ite_f hb54 h
                refine at_setb 77 rfl (nott hb54) ?_
                refine at_setb 78 rfl (nott hb54) ?_
                refine at_run tt_ok 27 [(1, (.i p1)), (5, (.tree v3)), (7, (.slc (v12.map (fun l => AV.slc (l.map AV.i) l.length false)) v12.length false)), (9, (.slc (v18.map AV.i) v18.length false)), (32, (.slc (v12.map (fun l => AV.slc (l.map AV.i) l.length false)) v12.length false)), (33, (.i (((v12.length : Nat) : Int)))), (34, (.i w0_1)), (48, (.i p1)), (49, (.b false)), (50, (.b false)), (57, (.b false)), (59, (.i w0_1)), (60, (.i w2_1)), (70, (.slc (v12.map (fun l => AV.slc (l.map AV.i) l.length false)) v12.length false)), (71, (.i w2_1)), (72, (.ptr [(.slc (v53.map AV.i) v53.length false)])), (73, (.slc (v53.map AV.i) v53.length false)), (74, (.i (((v53.length : Nat) : Int)))), (75, (.slc (v18.map AV.i) v18.length false)), (76, (.i (((v18.length : Nat) : Int)))), (77, (.b false)), (78, (.b false)), (88, (.b false)), (89, (.b false))] rfl (by kernel_rfl) ?_
                refine at_end rfl ?_
                refine aw_cond false rfl (fun h => by cases h) (fun _ => ?_)
                refine aw_skip ?_
                refine aw_reg ?_
                refine at_run tt_ok 2 [(1, (.i p1)), (5, (.tree v3)), (7, (.slc (v12.map (fun l => AV.slc (l.map AV.i) l.length false)) v12.length false)), (9, (.slc (v18.map AV.i) v18.length false)), (32, (.slc (v12.map (fun l => AV.slc (l.map AV.i) l.length false)) v12.length false)), (33, (.i (((v12.length : Nat) : Int)))), (34, (.i w0_1)), (48, (.i p1)), (49, (.b false)), (50, (.b false)), (57, (.b false)), (59, (.i w0_1)), (60, (.i ((IntKind.i64.wrap (w2_1 + 1))))), (70, (.slc (v12.map (fun l => AV.slc (l.map AV.i) l.length false)) v12.length false)), (71, (.i w2_1)), (72, (.ptr [(.slc (v53.map AV.i) v53.length false)])), (73, (.slc (v53.map AV.i) v53.length false)), (74, (.i (((v53.length : Nat) : Int)))), (75, (.slc (v18.map AV.i) v18.length false)), (76, (.i (((v18.length : Nat) : Int)))), (77, (.b false)), (78, (.b false)), (88, (.b false))] rfl (by kernel_rfl) ?_
                refine at_end rfl ?_
                exact ⟨k47, (IntKind.i64.wrap (w2_1 + 1)), [], [], by omega, ⟨by omega, h⟩, by kernel_rfl, rfl⟩
          · have h := ite_f (by rw [hb48]; simp) h
            refine aw_exit ?_
            refine aw_reg ?_
            refine at_run tt_ok 2 [(1, (.i p1)), (5, (.tree v3)), (7, (.slc (v12.map (fun l => AV.slc (l.map AV.i) l.length false)) v12.length false)), (32, (.slc (v12.map (fun l => AV.slc (l.map AV.i) l.length false)) v12.length false)), (33, (.i (((v12.length : Nat) : Int)))), (34, (.i ((IntKind.i64.wrap (w0_1 + 1))))), (48, (.i p1)), (49, (.b false)), (50, (.b false)), (57, (.b false))] rfl (by kernel_rfl) ?_
            refine at_end rfl ?_
            exact ⟨k47, (IntKind.i64.wrap (w0_1 + 1)), [], [], by omega, ⟨by omega, h⟩, by kernel_rfl, rfl⟩
    · have h := ite_f (by rw [hb17]; simp) h
      refine aw_exit ?_
      refine aw_seq ?_
      refine aw_reg ?_
      obtain ⟨v60, hc61, h⟩ := bind_some' h
      refine at_op rfl rfl rfl (aop_call (first := []) (caps := []) (xs := []) (args' := []) (sm := []) (r := []) rfl (by kernel_rfl) Try.func18 rfl rfl (law04_works_ok k16 _ hc61) (by kernel_rfl) (VW.refl _) (permTo [] (by kernel_rfl))) ?_
      rintro _ _ ⟨_, ⟨rfl, rfl⟩, rfl⟩
      refine at_run tt_ok 2 [(4, (.b v60))] rfl (by kernel_rfl) ?_
      refine at_end rfl ?_
      refine aw_ret ?_
      obtain rfl := Option.some.inj h
      exact ⟨(.b v60), (.b v60), _, (res_tmps (by kernel_rfl)), (View.refl _), ⟨_, perm_sel _ [], List.take_sublist 0 _⟩, rfl, rfl⟩
theorem law04_ArenaFinds_ok (K : Nat) : ∀ (p0 : List S_Cell) (p1 : List S_Cell) (p2 : Int) (r : Bool), law04_ArenaFinds K p0 p1 p2 = some r → ACalls Try.prog 8 [(.agg [(.slc (p0.flatMap S_Cell.cs) p0.length false)]), (.agg [(.slc (p1.flatMap S_Cell.cs) p1.length false)]), (.i p2)] [] (fun av s => av = (.b r) ∧ s = []) := by
  intro p0 p1 p2 r h
  refine acalls_enter Try.func8 rfl rfl ?_
  refine aw_seq ?_
  refine aw_normal [(0, (.agg [(.slc (p0.flatMap S_Cell.cs) p0.length false)])), (1, (.agg [(.slc (p1.flatMap S_Cell.cs) p1.length false)])), (2, (.i p2))] (s' := []) (by kernel_rfl) rfl ?_
  refine aw_reg ?_
  refine at_run tt_ok 3 [(2, (.i p2)), (3, (.ptr [(.slc (p0.flatMap S_Cell.cs) p0.length false)])), (4, (.ptr [(.slc (p1.flatMap S_Cell.cs) p1.length false)]))] rfl (by kernel_rfl) ?_
  refine at_end rfl ?_
  refine aw_seq ?_
  refine aw_reg ?_
  refine at_run tt_ok 1 [(2, (.i p2)), (4, (.ptr [(.slc (p1.flatMap S_Cell.cs) p1.length false)])), (22, (.agg [(.slc (p0.flatMap S_Cell.cs) p0.length false)]))] rfl (by kernel_rfl) ?_
  obtain ⟨v1, hc2, h⟩ := bind_some' h
  refine at_op rfl rfl rfl (aop_call (first := []) (caps := []) (xs := [(.agg [(.slc (p0.flatMap S_Cell.cs) p0.length false)])]) (args' := [(.agg [(.slc (p0.flatMap S_Cell.cs) p0.length false)])]) (sm := []) (r := []) rfl (by kernel_rfl) Try.func10 rfl rfl (law04_few_ok K p0 _ hc2) (by kernel_rfl) (VW.refl _) (permTo [] (by kernel_rfl))) ?_
  rintro _ _ ⟨_, ⟨rfl, rfl⟩, rfl⟩
  obtain ⟨⟨v3, v4⟩, hc5, h⟩ := bind_some' h
  refine at_op rfl rfl rfl (aop_call (first := []) (caps := []) (xs := [(.agg [(.slc (v1.flatMap S_Cell.cs) v1.length false)])]) (args' := [(.agg [(.slc (v1.flatMap S_Cell.cs) v1.length false)])]) (sm := []) (r := []) rfl (by kernel_rfl) Try.func19 rfl rfl (arena_Open_ok K v1 _ hc5) (by kernel_rfl) (VW.refl _) (permTo [] (by kernel_rfl))) ?_
  rintro _ _ ⟨_, ⟨rfl, rfl⟩, rfl⟩
  refine at_run tt_ok 8 [(2, (.i p2)), (4, (.ptr [(.slc (p1.flatMap S_Cell.cs) p1.length false)])), (7, (.tree v3)), (8, (.i v4))] rfl (by kernel_rfl) ?_
  refine at_end rfl ?_
  refine aw_seq ?_
  refine aw_reg ?_
  refine at_run tt_ok 1 [(2, (.i p2)), (7, (.tree v3)), (8, (.i v4)), (28, (.agg [(.slc (p1.flatMap S_Cell.cs) p1.length false)]))] rfl (by kernel_rfl) ?_
  obtain ⟨v6, hc7, h⟩ := bind_some' h
  refine at_op rfl rfl rfl (aop_call (first := []) (caps := []) (xs := [(.agg [(.slc (p1.flatMap S_Cell.cs) p1.length false)])]) (args' := [(.agg [(.slc (p1.flatMap S_Cell.cs) p1.length false)])]) (sm := []) (r := []) rfl (by kernel_rfl) Try.func10 rfl rfl (law04_few_ok K p1 _ hc7) (by kernel_rfl) (VW.refl _) (permTo [] (by kernel_rfl))) ?_
  rintro _ _ ⟨_, ⟨rfl, rfl⟩, rfl⟩
  obtain ⟨⟨v8, v9⟩, hc10, h⟩ := bind_some' h
  refine at_op rfl rfl rfl (aop_call (first := []) (caps := []) (xs := [(.agg [(.slc (v6.flatMap S_Cell.cs) v6.length false)])]) (args' := [(.agg [(.slc (v6.flatMap S_Cell.cs) v6.length false)])]) (sm := []) (r := []) rfl (by kernel_rfl) Try.func19 rfl rfl (arena_Open_ok K v6 _ hc10) (by kernel_rfl) (VW.refl _) (permTo [] (by kernel_rfl))) ?_
  rintro _ _ ⟨_, ⟨rfl, rfl⟩, rfl⟩
  refine at_run tt_ok 8 [(2, (.i p2)), (7, (.tree v3)), (8, (.i v4)), (9, (.tree v8)), (10, (.i v9))] rfl (by kernel_rfl) ?_
  refine at_end rfl ?_
  refine aw_seq ?_
  refine aw_seq ?_
  refine aw_reg ?_
  refine at_run tt_ok 3 [(2, (.i p2)), (7, (.tree v3)), (9, (.tree v8)), (10, (.i v9)), (35, (.b ((!decide (v4 = 0)))))] rfl (by kernel_rfl) ?_
  by_cases hb11 : (!decide (v4 = 0)) = true
  · have h := ite_t hb11 h
    refine at_setb 35 rfl hb11 ?_
    refine at_run tt_ok 6 [(2, (.i p2)), (7, (.tree v3)), (9, (.tree v8)), (38, (.b true))] rfl (by kernel_rfl) ?_
    refine at_end rfl ?_
    refine aw_cond true rfl (fun _ => ?_) (fun h => by cases h)
    refine aw_seq ?_
    refine aw_reg ?_
    obtain ⟨v12, hc13, h⟩ := bind_some' h
    refine at_op rfl rfl rfl (aop_call (first := []) (caps := []) (xs := []) (args' := []) (sm := []) (r := []) rfl (by kernel_rfl) Try.func18 rfl rfl (law04_works_ok K _ hc13) (by kernel_rfl) (VW.refl _) (permTo [] (by kernel_rfl))) ?_
    rintro _ _ ⟨_, ⟨rfl, rfl⟩, rfl⟩
    refine at_run tt_ok 2 [(6, (.b v12))] rfl (by kernel_rfl) ?_
    refine at_end rfl ?_
    refine aw_ret ?_
    obtain rfl := Option.some.inj h
    exact ⟨(.b v12), (.b v12), _, (res_tmps (by kernel_rfl)), (View.refl _), ⟨_, perm_sel _ [], List.take_sublist 0 _⟩, rfl, rfl⟩
  · have h := ite_f hb11 h
    refine at_setb 35 rfl (nott hb11) ?_
    refine at_run tt_ok 6 [(2, (.i p2)), (7, (.tree v3)), (9, (.tree v8)), (38, (.b ((!decide (v9 = 0)))))] rfl (by kernel_rfl) ?_
    refine at_end rfl ?_
    refine aw_cond ((!decide (v9 = 0))) rfl (fun hb14 => ?_) (fun hb14 => ?_)
    · have h := ite_t hb14 h
      refine aw_seq ?_
      refine aw_reg ?_
      obtain ⟨v15, hc16, h⟩ := bind_some' h
      refine at_op rfl rfl rfl (aop_call (first := []) (caps := []) (xs := []) (args' := []) (sm := []) (r := []) rfl (by kernel_rfl) Try.func18 rfl rfl (law04_works_ok K _ hc16) (by kernel_rfl) (VW.refl _) (permTo [] (by kernel_rfl))) ?_
      rintro _ _ ⟨_, ⟨rfl, rfl⟩, rfl⟩
      refine at_run tt_ok 2 [(6, (.b v15))] rfl (by kernel_rfl) ?_
      refine at_end rfl ?_
      refine aw_ret ?_
      obtain rfl := Option.some.inj h
      exact ⟨(.b v15), (.b v15), _, (res_tmps (by kernel_rfl)), (View.refl _), ⟨_, perm_sel _ [], List.take_sublist 0 _⟩, rfl, rfl⟩
    · have h := ite_f (by rw [hb14]; simp) h
      refine aw_skip ?_
      refine aw_seq ?_
      refine aw_reg ?_
      refine at_run tt_ok 1 [(2, (.i p2)), (7, (.tree v3)), (9, (.tree v8)), (40, (.tree v3))] rfl (by kernel_rfl) ?_
      obtain ⟨v17, hc18, h⟩ := bind_some' h
      refine at_op rfl rfl rfl (aop_call (first := []) (caps := []) (xs := [(.tree v3), (.i ((-1)))]) (args' := [(.tree v3), (.i ((-1)))]) (sm := []) (r := []) rfl (by kernel_rfl) Try.func28 rfl rfl (arena_Paths_ok K v3 ((-1)) _ hc18) (by kernel_rfl) (VW.refl _) (permTo [] (by kernel_rfl))) ?_
      rintro _ _ ⟨_, ⟨rfl, rfl⟩, rfl⟩
      refine at_run tt_ok 3 [(2, (.i p2)), (7, (.tree v3)), (9, (.tree v8)), (11, (.slc (v17.map (fun l => AV.slc (l.map AV.i) l.length false)) v17.length false))] rfl (by kernel_rfl) ?_
      refine at_end rfl ?_
      refine aw_seq ?_
      refine aw_seq ?_
      refine aw_reg ?_
      refine at_run tt_ok 4 [(2, (.i p2)), (7, (.tree v3)), (9, (.tree v8)), (11, (.slc (v17.map (fun l => AV.slc (l.map AV.i) l.length false)) v17.length false)), (45, (.b ((decide ((((v17.length : Nat) : Int)) = 0)))))] rfl (by kernel_rfl) ?_
      by_cases hb19 : (decide ((((v17.length : Nat) : Int)) = 0)) = true
      · have h := ite_t hb19 h
        refine at_setb 45 rfl hb19 ?_
        refine at_run tt_ok 10 [(2, (.i p2)), (7, (.tree v3)), (9, (.tree v8)), (11, (.slc (v17.map (fun l => AV.slc (l.map AV.i) l.length false)) v17.length false)), (51, (.b true))] rfl (by kernel_rfl) ?_
        refine at_end rfl ?_
        refine aw_cond true rfl (fun _ => ?_) (fun h => by cases h)
        refine aw_seq ?_
        refine aw_reg ?_
        refine at_run tt_ok 1 [(6, (.b false))] rfl (by kernel_rfl) ?_
        refine at_end rfl ?_
        refine aw_ret ?_
        obtain rfl := Option.some.inj h
        exact ⟨(.b false), (.b false), _, (res_tmps (by kernel_rfl)), (View.refl _), ⟨_, perm_sel _ [], List.take_sublist 0 _⟩, rfl, rfl⟩
      · have h := ite_f hb19 h
        refine at_setb 45 rfl (nott hb19) ?_
        refine at_run tt_ok 7 [(2, (.i p2)), (7, (.tree v3)), (9, (.tree v8)), (11, (.slc (v17.map (fun l => AV.slc (l.map AV.i) l.length false)) v17.length false)), (45, (.b false)), (47, (.i (((v17.length : Nat) : Int)))), (48, (.tree v3))] rfl (by kernel_rfl) ?_
        obtain ⟨v20, hc21, h⟩ := bind_some' h
        refine at_op rfl rfl rfl (aop_call (first := []) (caps := []) (xs := [(.tree v3)]) (args' := [(.tree v3)]) (sm := []) (r := []) rfl (by kernel_rfl) Try.func13 rfl rfl (arena_Size_ok K v3 _ hc21) (by kernel_rfl) (VW.refl _) (permTo [] (by kernel_rfl))) ?_
        rintro _ _ ⟨_, ⟨rfl, rfl⟩, rfl⟩
        refine at_run tt_ok 10 [(2, (.i p2)), (7, (.tree v3)), (9, (.tree v8)), (11, (.slc (v17.map (fun l => AV.slc (l.map AV.i) l.length false)) v17.length false)), (51, (.b ((!decide ((((v17.length : Nat) : Int)) = v20)))))] rfl (by kernel_rfl) ?_
        refine at_end rfl ?_
        refine aw_cond ((!decide ((((v17.length : Nat) : Int)) = v20))) rfl (fun hb22 => ?_) (fun hb22 => ?_)
        · have h := ite_t hb22 h
          refine aw_seq ?_
          refine aw_reg ?_
          refine at_run tt_ok 1 [(6, (.b false))] rfl (by kernel_rfl) ?_
          refine at_end rfl ?_
          refine aw_ret ?_
          obtain rfl := Option.some.inj h
          exact ⟨(.b false), (.b false), _, (res_tmps (by kernel_rfl)), (View.refl _), ⟨_, perm_sel _ [], List.take_sublist 0 _⟩, rfl, rfl⟩
        · have h := ite_f (by rw [hb22]; simp) h
          refine aw_skip ?_
          refine aw_seq ?_
          refine aw_reg ?_
          refine at_run tt_ok 4 [(7, (.tree v3)), (9, (.tree v8)), (11, (.slc (v17.map (fun l => AV.slc (l.map AV.i) l.length false)) v17.length false)), (52, (.slc (v17.map (fun l => AV.slc (l.map AV.i) l.length false)) v17.length false)), (53, (.i p2)), (55, (.i (((v17.length : Nat) : Int))))] rfl (by kernel_rfl) ?_
          obtain ⟨v23, hv23, h⟩ := bind_some' h
          refine at_one rfl rfl rfl (aop_rem (k := .i64) (a := p2) (b := ((v17.length : Nat) : Int)) (v := v23) hv23 rfl rfl rfl) ?_
          refine at_run tt_ok 10 [(7, (.tree v3)), (9, (.tree v8)), (52, (.slc (v17.map (fun l => AV.slc (l.map AV.i) l.length false)) v17.length false)), (59, (.i ((IntKind.i64.wrap (v23 + (((v17.length : Nat) : Int))))))), (61, (.i (((v17.length : Nat) : Int))))] rfl (by kernel_rfl) ?_
          obtain ⟨v24, hv24, h⟩ := bind_some' h
          refine at_one rfl rfl rfl (aop_rem (k := .i64) (a := (IntKind.i64.wrap (v23 + (((v17.length : Nat) : Int))))) (b := ((v17.length : Nat) : Int)) (v := v24) hv24 rfl rfl rfl) ?_
          obtain ⟨v25, hv25, h⟩ := bind_some' h
          refine at_one rfl rfl rfl (aop_idx1 (k := .i64) (g := (fun l => AV.slc (l.map AV.i) l.length false)) (l := v17) (fu := false) (j := v24) (v := v25) tt_ok rfl rfl rfl rfl rfl hv25) ?_
          refine at_run tt_ok 14 [(7, (.tree v3)), (9, (.tree v8)), (12, (.slc (v25.map AV.i) v25.length false))] rfl (by kernel_rfl) ?_
          refine at_end rfl ?_
          refine aw_seq ?_
          refine aw_reg ?_
          refine at_run tt_ok 2 [(7, (.tree v3)), (9, (.tree v8)), (12, (.slc (v25.map AV.i) v25.length false)), (66, (.tree v3)), (67, (.slc (v25.map AV.i) v25.length false))] rfl (by kernel_rfl) ?_
          obtain ⟨⟨v26, v27⟩, hc28, h⟩ := bind_some' h
          refine at_op rfl rfl rfl (aop_call (first := []) (caps := []) (xs := [(.tree v3), (.slc (v25.map AV.i) v25.length false)]) (args' := [(.tree v3), (.slc (v25.map AV.i) v25.length false)]) (sm := []) (r := []) rfl (by kernel_rfl) Try.func23 rfl rfl (arena_At_ok K v3 v25 _ hc28) (by kernel_rfl) (VW.refl _) (permTo [] (by kernel_rfl))) ?_
          rintro _ _ ⟨_, ⟨rfl, rfl⟩, rfl⟩
          refine at_run tt_ok 8 [(7, (.tree v3)), (9, (.tree v8)), (12, (.slc (v25.map AV.i) v25.length false)), (13, (.tree v26)), (14, (.i v27))] rfl (by kernel_rfl) ?_
          refine at_end rfl ?_
          refine aw_seq ?_
          refine aw_reg ?_
          refine at_run tt_ok 3 [(7, (.tree v3)), (9, (.tree v8)), (12, (.slc (v25.map AV.i) v25.length false)), (13, (.tree v26)), (14, (.i v27)), (72, (.tree v3)), (73, (.slc (v25.map AV.i) v25.length false)), (74, (.tree v8))] rfl (by kernel_rfl) ?_
          obtain ⟨⟨v29, v30⟩, hc31, h⟩ := bind_some' h
          refine at_op rfl rfl rfl (aop_call (first := []) (caps := []) (xs := [(.tree v3), (.slc (v25.map AV.i) v25.length false), (.tree v8)]) (args' := [(.tree v3), (.slc (v25.map AV.i) v25.length false), (.tree v8)]) (sm := []) (r := []) rfl (by kernel_rfl) Try.func25 rfl rfl (arena_Put_ok K v3 v25 v8 _ hc31) (by kernel_rfl) (VW.refl _) (permTo [] (by kernel_rfl))) ?_
          rintro _ _ ⟨_, ⟨rfl, rfl⟩, rfl⟩
          refine at_run tt_ok 9 [(7, (.tree v3)), (9, (.tree v8)), (12, (.slc (v25.map AV.i) v25.length false)), (13, (.tree v26)), (14, (.i v27)), (15, (.tree v29)), (16, (.i v30))] rfl (by kernel_rfl) ?_
          refine at_end rfl ?_
          refine aw_seq ?_
          refine aw_reg ?_
          refine at_run tt_ok 2 [(7, (.tree v3)), (9, (.tree v8)), (12, (.slc (v25.map AV.i) v25.length false)), (13, (.tree v26)), (14, (.i v27)), (15, (.tree v29)), (16, (.i v30)), (79, (.tree v29)), (80, (.slc (v25.map AV.i) v25.length false))] rfl (by kernel_rfl) ?_
          obtain ⟨⟨v32, v33⟩, hc34, h⟩ := bind_some' h
          refine at_op rfl rfl rfl (aop_call (first := []) (caps := []) (xs := [(.tree v29), (.slc (v25.map AV.i) v25.length false)]) (args' := [(.tree v29), (.slc (v25.map AV.i) v25.length false)]) (sm := []) (r := []) rfl (by kernel_rfl) Try.func23 rfl rfl (arena_At_ok K v29 v25 _ hc34) (by kernel_rfl) (VW.refl _) (permTo [] (by kernel_rfl))) ?_
          rintro _ _ ⟨_, ⟨rfl, rfl⟩, rfl⟩
          refine at_run tt_ok 8 [(7, (.tree v3)), (9, (.tree v8)), (12, (.slc (v25.map AV.i) v25.length false)), (13, (.tree v26)), (14, (.i v27)), (15, (.tree v29)), (16, (.i v30)), (17, (.tree v32)), (18, (.i v33))] rfl (by kernel_rfl) ?_
          refine at_end rfl ?_
          refine aw_seq ?_
          refine aw_reg ?_
          refine at_run tt_ok 3 [(7, (.tree v3)), (9, (.tree v8)), (13, (.tree v26)), (14, (.i v27)), (15, (.tree v29)), (16, (.i v30)), (17, (.tree v32)), (18, (.i v33)), (85, (.tree v29)), (86, (.slc (v25.map AV.i) v25.length false)), (87, (.tree v26))] rfl (by kernel_rfl) ?_
          obtain ⟨⟨v35, v36⟩, hc37, h⟩ := bind_some' h
          refine at_op rfl rfl rfl (aop_call (first := []) (caps := []) (xs := [(.tree v29), (.slc (v25.map AV.i) v25.length false), (.tree v26)]) (args' := [(.tree v29), (.slc (v25.map AV.i) v25.length false), (.tree v26)]) (sm := []) (r := []) rfl (by kernel_rfl) Try.func25 rfl rfl (arena_Put_ok K v29 v25 v26 _ hc37) (by kernel_rfl) (VW.refl _) (permTo [] (by kernel_rfl))) ?_
          rintro _ _ ⟨_, ⟨rfl, rfl⟩, rfl⟩
          refine at_run tt_ok 9 [(7, (.tree v3)), (9, (.tree v8)), (13, (.tree v26)), (14, (.i v27)), (15, (.tree v29)), (16, (.i v30)), (17, (.tree v32)), (18, (.i v33)), (19, (.tree v35)), (20, (.i v36))] rfl (by kernel_rfl) ?_
          refine at_end rfl ?_
          refine aw_seq ?_
          refine aw_seq ?_
          refine aw_reg ?_
          refine at_run tt_ok 3 [(7, (.tree v3)), (9, (.tree v8)), (13, (.tree v26)), (15, (.tree v29)), (16, (.i v30)), (17, (.tree v32)), (18, (.i v33)), (19, (.tree v35)), (20, (.i v36)), (93, (.b ((!decide (v27 = 0)))))] rfl (by kernel_rfl) ?_
          by_cases hb38 : (!decide (v27 = 0)) = true
          · have h := ite_t hb38 h
            refine at_setb 93 rfl hb38 ?_
            refine at_run tt_ok 26 [(7, (.tree v3)), (9, (.tree v8)), (13, (.tree v26)), (15, (.tree v29)), (116, (.b true))] rfl (by kernel_rfl) ?_
            refine at_end rfl ?_
            refine aw_cond true rfl (fun _ => ?_) (fun h => by cases h)
            refine aw_seq ?_
            refine aw_reg ?_
            refine at_run tt_ok 1 [(6, (.b false))] rfl (by kernel_rfl) ?_
            refine at_end rfl ?_
            refine aw_ret ?_
            obtain rfl := Option.some.inj h
            exact ⟨(.b false), (.b false), _, (res_tmps (by kernel_rfl)), (View.refl _), ⟨_, perm_sel _ [], List.take_sublist 0 _⟩, rfl, rfl⟩
          · have h := ite_f hb38 h
            refine at_setb 93 rfl (nott hb38) ?_
            refine at_run tt_ok 7 [(7, (.tree v3)), (9, (.tree v8)), (13, (.tree v26)), (15, (.tree v29)), (17, (.tree v32)), (18, (.i v33)), (19, (.tree v35)), (20, (.i v36)), (97, (.b ((!decide (v30 = 0)))))] rfl (by kernel_rfl) ?_
            by_cases hb39 : (!decide (v30 = 0)) = true
            · have h := ite_t hb39 h
              refine at_setb 97 rfl hb39 ?_
              refine at_run tt_ok 26 [(7, (.tree v3)), (9, (.tree v8)), (13, (.tree v26)), (15, (.tree v29)), (116, (.b true))] rfl (by kernel_rfl) ?_
              refine at_end rfl ?_
              refine aw_cond true rfl (fun _ => ?_) (fun h => by cases h)
              refine aw_seq ?_
              refine aw_reg ?_
              refine at_run tt_ok 1 [(6, (.b false))] rfl (by kernel_rfl) ?_
              refine at_end rfl ?_
              refine aw_ret ?_
              obtain rfl := Option.some.inj h
              exact ⟨(.b false), (.b false), _, (res_tmps (by kernel_rfl)), (View.refl _), ⟨_, perm_sel _ [], List.take_sublist 0 _⟩, rfl, rfl⟩
            · have h := ite_f hb39 h
              refine at_setb 97 rfl (nott hb39) ?_
              refine at_run tt_ok 11 [(7, (.tree v3)), (9, (.tree v8)), (13, (.tree v26)), (15, (.tree v29)), (17, (.tree v32)), (19, (.tree v35)), (20, (.i v36)), (101, (.b ((!decide (v33 = 0)))))] rfl (by kernel_rfl) ?_
              by_cases hb40 : (!decide (v33 = 0)) = true
              · have h := ite_t hb40 h
                refine at_setb 101 rfl hb40 ?_
                refine at_run tt_ok 26 [(7, (.tree v3)), (9, (.tree v8)), (13, (.tree v26)), (15, (.tree v29)), (116, (.b true))] rfl (by kernel_rfl) ?_
                refine at_end rfl ?_
                refine aw_cond true rfl (fun _ => ?_) (fun h => by cases h)
                refine aw_seq ?_
                refine aw_reg ?_
                refine at_run tt_ok 1 [(6, (.b false))] rfl (by kernel_rfl) ?_
                refine at_end rfl ?_
                refine aw_ret ?_
                obtain rfl := Option.some.inj h
                exact ⟨(.b false), (.b false), _, (res_tmps (by kernel_rfl)), (View.refl _), ⟨_, perm_sel _ [], List.take_sublist 0 _⟩, rfl, rfl⟩
              · have h := ite_f hb40 h
                refine at_setb 101 rfl (nott hb40) ?_
                refine at_run tt_ok 15 [(7, (.tree v3)), (9, (.tree v8)), (13, (.tree v26)), (15, (.tree v29)), (17, (.tree v32)), (19, (.tree v35)), (105, (.b ((!decide (v36 = 0)))))] rfl (by kernel_rfl) ?_
                by_cases hb41 : (!decide (v36 = 0)) = true
                · have h := ite_t hb41 h
                  refine at_setb 105 rfl hb41 ?_
                  refine at_run tt_ok 26 [(7, (.tree v3)), (9, (.tree v8)), (13, (.tree v26)), (15, (.tree v29)), (116, (.b true))] rfl (by kernel_rfl) ?_
                  refine at_end rfl ?_
                  refine aw_cond true rfl (fun _ => ?_) (fun h => by cases h)
                  refine aw_seq ?_
                  refine aw_reg ?_
                  refine at_run tt_ok 1 [(6, (.b false))] rfl (by kernel_rfl) ?_
                  refine at_end rfl ?_
                  refine aw_ret ?_
                  obtain rfl := Option.some.inj h
                  exact ⟨(.b false), (.b false), _, (res_tmps (by kernel_rfl)), (View.refl _), ⟨_, perm_sel _ [], List.take_sublist 0 _⟩, rfl, rfl⟩
                · have h := ite_f hb41 h
                  refine at_setb 105 rfl (nott hb41) ?_
                  refine at_run tt_ok 17 [(7, (.tree v3)), (9, (.tree v8)), (13, (.tree v26)), (15, (.tree v29)), (19, (.tree v35)), (105, (.b false)), (106, (.tree v32)), (107, (.tree v8))] rfl (by kernel_rfl) ?_
                  obtain ⟨v42, hc43, h⟩ := bind_some' h
                  refine at_op rfl rfl rfl (aop_call (first := []) (caps := []) (xs := [(.tree v32), (.tree v8)]) (args' := [(.tree v32), (.tree v8)]) (sm := []) (r := []) rfl (by kernel_rfl) Try.func11 rfl rfl (arena_Same_ok K v32 v8 _ hc43) (by kernel_rfl) (VW.refl _) (permTo [] (by kernel_rfl))) ?_
                  rintro _ _ ⟨_, ⟨rfl, rfl⟩, rfl⟩
                  refine at_run tt_ok 21 [(7, (.tree v3)), (9, (.tree v8)), (13, (.tree v26)), (15, (.tree v29)), (19, (.tree v35)), (111, (.b ((!v42))))] rfl (by kernel_rfl) ?_
                  by_cases hb44 : (!v42) = true
                  · have h := ite_t hb44 h
                    refine at_setb 111 rfl hb44 ?_
                    refine at_run tt_ok 26 [(7, (.tree v3)), (9, (.tree v8)), (13, (.tree v26)), (15, (.tree v29)), (116, (.b true))] rfl (by kernel_rfl) ?_
                    refine at_end rfl ?_
                    refine aw_cond true rfl (fun _ => ?_) (fun h => by cases h)
                    refine aw_seq ?_
                    refine aw_reg ?_
                    refine at_run tt_ok 1 [(6, (.b false))] rfl (by kernel_rfl) ?_
                    refine at_end rfl ?_
                    refine aw_ret ?_
                    obtain rfl := Option.some.inj h
                    exact ⟨(.b false), (.b false), _, (res_tmps (by kernel_rfl)), (View.refl _), ⟨_, perm_sel _ [], List.take_sublist 0 _⟩, rfl, rfl⟩
                  · have h := ite_f hb44 h
                    refine at_setb 111 rfl (nott hb44) ?_
                    refine at_run tt_ok 23 [(7, (.tree v3)), (9, (.tree v8)), (13, (.tree v26)), (15, (.tree v29)), (111, (.b false)), (112, (.tree v35)), (113, (.tree v3))] rfl (by kernel_rfl) ?_
                    obtain ⟨v45, hc46, h⟩ := bind_some' h
                    refine at_op rfl rfl rfl (aop_call (first := []) (caps := []) (xs := [(.tree v35), (.tree v3)]) (args' := [(.tree v35), (.tree v3)]) (sm := []) (r := []) rfl (by kernel_rfl) Try.func11 rfl rfl (arena_Same_ok K v35 v3 _ hc46) (by kernel_rfl) (VW.refl _) (permTo [] (by kernel_rfl))) ?_
                    rintro _ _ ⟨_, ⟨rfl, rfl⟩, rfl⟩
                    refine at_run tt_ok 26 [(7, (.tree v3)), (9, (.tree v8)), (13, (.tree v26)), (15, (.tree v29)), (116, (.b ((!v45))))] rfl (by kernel_rfl) ?_
                    refine at_end rfl ?_
                    refine aw_cond ((!v45)) rfl (fun hb47 => ?_) (fun hb47 => ?_)
                    · have h := ite_t hb47 h
                      refine aw_seq ?_
                      refine aw_reg ?_
                      refine at_run tt_ok 1 [(6, (.b false))] rfl (by kernel_rfl) ?_
                      refine at_end rfl ?_
                      refine aw_ret ?_
                      obtain rfl := Option.some.inj h
                      exact ⟨(.b false), (.b false), _, (res_tmps (by kernel_rfl)), (View.refl _), ⟨_, perm_sel _ [], List.take_sublist 0 _⟩, rfl, rfl⟩
                    · have h := ite_f (by rw [hb47]; simp) h
                      refine aw_skip ?_
                      refine aw_seq ?_
                      refine aw_reg ?_
                      refine at_run tt_ok 1 [(7, (.tree v3)), (9, (.tree v8)), (13, (.tree v26)), (117, (.tree v29))] rfl (by kernel_rfl) ?_
                      obtain ⟨v48, hc49, h⟩ := bind_some' h
                      refine at_op rfl rfl rfl (aop_call (first := []) (caps := []) (xs := [(.tree v29)]) (args' := [(.tree v29)]) (sm := []) (r := []) rfl (by kernel_rfl) Try.func13 rfl rfl (arena_Size_ok K v29 _ hc49) (by kernel_rfl) (VW.refl _) (permTo [] (by kernel_rfl))) ?_
                      rintro _ _ ⟨_, ⟨rfl, rfl⟩, rfl⟩
                      refine at_run tt_ok 3 [(9, (.tree v8)), (13, (.tree v26)), (118, (.i v48)), (119, (.tree v3))] rfl (by kernel_rfl) ?_
                      obtain ⟨v50, hc51, h⟩ := bind_some' h
                      refine at_op rfl rfl rfl (aop_call (first := []) (caps := []) (xs := [(.tree v3)]) (args' := [(.tree v3)]) (sm := []) (r := []) rfl (by kernel_rfl) Try.func13 rfl rfl (arena_Size_ok K v3 _ hc51) (by kernel_rfl) (VW.refl _) (permTo [] (by kernel_rfl))) ?_
                      rintro _ _ ⟨_, ⟨rfl, rfl⟩, rfl⟩
                      refine at_run tt_ok 5 [(9, (.tree v8)), (118, (.i v48)), (120, (.i v50)), (121, (.tree v26))] rfl (by kernel_rfl) ?_
                      obtain ⟨v52, hc53, h⟩ := bind_some' h
                      refine at_op rfl rfl rfl (aop_call (first := []) (caps := []) (xs := [(.tree v26)]) (args' := [(.tree v26)]) (sm := []) (r := []) rfl (by kernel_rfl) Try.func13 rfl rfl (arena_Size_ok K v26 _ hc53) (by kernel_rfl) (VW.refl _) (permTo [] (by kernel_rfl))) ?_
                      rintro _ _ ⟨_, ⟨rfl, rfl⟩, rfl⟩
                      refine at_run tt_ok 8 [(118, (.i v48)), (123, (.i ((IntKind.i64.wrap (v50 - v52))))), (124, (.tree v8))] rfl (by kernel_rfl) ?_
                      obtain ⟨v54, hc55, h⟩ := bind_some' h
                      refine at_op rfl rfl rfl (aop_call (first := []) (caps := []) (xs := [(.tree v8)]) (args' := [(.tree v8)]) (sm := []) (r := []) rfl (by kernel_rfl) Try.func13 rfl rfl (arena_Size_ok K v8 _ hc55) (by kernel_rfl) (VW.refl _) (permTo [] (by kernel_rfl))) ?_
                      rintro _ _ ⟨_, ⟨rfl, rfl⟩, rfl⟩
                      refine at_run tt_ok 12 [(128, (.b ((decide (v48 = ((IntKind.i64.wrap (((IntKind.i64.wrap (v50 - v52))) + v54))))))))] rfl (by kernel_rfl) ?_
                      by_cases hb56 : (decide (v48 = ((IntKind.i64.wrap (((IntKind.i64.wrap (v50 - v52))) + v54))))) = true
                      · have h := ite_t hb56 h
                        refine at_setb 128 rfl hb56 ?_
                        obtain ⟨v57, hc58, h⟩ := bind_some' h
                        refine at_op rfl rfl rfl (aop_call (first := []) (caps := []) (xs := []) (args' := []) (sm := []) (r := []) rfl (by kernel_rfl) Try.func18 rfl rfl (law04_works_ok K _ hc58) (by kernel_rfl) (VW.refl _) (permTo [] (by kernel_rfl))) ?_
                        rintro _ _ ⟨_, ⟨rfl, rfl⟩, rfl⟩
                        refine at_run tt_ok 15 [(6, (.b v57))] rfl (by kernel_rfl) ?_
                        refine at_end rfl ?_
                        refine aw_ret ?_
                        obtain rfl := Option.some.inj h
                        exact ⟨(.b v57), (.b v57), _, (res_tmps (by kernel_rfl)), (View.refl _), ⟨_, perm_sel _ [], List.take_sublist 0 _⟩, rfl, rfl⟩
                      · have h := ite_f hb56 h
                        refine at_setb 128 rfl (nott hb56) ?_
                        refine at_run tt_ok 15 [(6, (.b false))] rfl (by kernel_rfl) ?_
                        refine at_end rfl ?_
                        refine aw_ret ?_
                        obtain rfl := Option.some.inj h
                        exact ⟨(.b false), (.b false), _, (res_tmps (by kernel_rfl)), (View.refl _), ⟨_, perm_sel _ [], List.take_sublist 0 _⟩, rfl, rfl⟩
end Go.Proofs.Ythkaeeadihplcaa
