/- That the Go functions come to the printed Lean functions, whatever they are handed: each walk under no condition but that the Lean function answers. Printed by gen.py of this session. -/
import Derived.Test.YthkaeeadihplcaaAm16
import Derived.Test.YthkaeeadihplcaaRows
import Derived.Test.YthkaeeadihplcaaGFn
namespace Go.Proofs.Ythkaeeadihplcaa
open Go Go.Am
def tt : TT := { kd := [(0, .other), (1, .func), (2, (.int .i64)), (3, (.int .i64)), (4, .bool), (5, (.int .u8)), (6, (.int .u8)), (7, .struct), (8, .struct), (9, .string), (10, .string), (11, .string), (12, (.int .u64)), (13, .struct), (14, .struct), (15, (.pointer 74)), (16, (.pointer 77)), (17, (.pointer 87)), (18, .struct), (19, .struct), (20, .other), (21, (.int .i32)), (22, (.slice 58)), (23, .struct), (24, .struct), (25, (.pointer 34)), (26, .other), (27, .func), (28, .func), (29, .func), (30, .func), (31, .func), (32, (.slice 25)), (33, .struct), (34, .struct), (35, .func), (36, .func), (37, (.int .i64)), (38, .other), (39, .func), (40, .other), (41, .func), (42, .other), (43, .func), (44, .func), (45, (.slice 3)), (46, .func), (47, .func), (48, .func), (49, .func), (50, .func), (51, (.slice 45)), (52, .func), (53, .func), (54, .func), (55, .func), (56, .func), (57, .struct), (58, .struct), (59, .func), (60, .func), (61, (.slice 4)), (62, .func), (63, .func), (64, .func), (65, .func), (66, .func), (67, .func), (68, .func), (69, .func), (70, .func), (71, .func), (72, .func), (73, .struct), (74, .struct), (75, .array), (76, .struct), (77, .struct), (78, .func), (79, (.int .u32)), (80, (.int .u8)), (81, (.int .u8)), (82, .func), (83, (.pointer 5)), (84, (.int .i32)), (85, (.int .i32)), (86, .struct), (87, .struct), (88, .other)], sz := [(1, 1), (2, 1), (3, 1), (4, 1), (5, 1), (6, 1), (7, 4), (8, 4), (9, 1), (10, 1), (11, 1), (12, 1), (13, 2), (14, 2), (15, 1), (16, 1), (17, 1), (18, 1), (19, 1), (21, 1), (22, 1), (23, 1), (24, 1), (25, 1), (27, 1), (28, 1), (29, 1), (30, 1), (31, 1), (32, 1), (33, 5), (34, 5), (35, 1), (36, 1), (37, 1), (39, 1), (41, 1), (43, 1), (44, 1), (45, 1), (46, 1), (47, 1), (48, 1), (49, 1), (50, 1), (51, 1), (52, 1), (53, 1), (54, 1), (55, 1), (56, 1), (57, 5), (58, 5), (59, 1), (60, 1), (61, 1), (62, 1), (63, 1), (64, 1), (65, 1), (66, 1), (67, 1), (68, 1), (69, 1), (70, 1), (71, 1), (72, 1), (73, 4), (74, 4), (75, 0), (76, 0), (77, 0), (78, 1), (79, 1), (80, 1), (81, 1), (82, 1), (83, 1), (84, 1), (85, 1), (86, 11), (87, 11), (88, 1)], by' := [(1, 8), (2, 8), (3, 8), (4, 1), (5, 1), (6, 1), (7, 24), (8, 24), (9, 16), (10, 16), (11, 16), (12, 8), (13, 24), (14, 24), (15, 8), (16, 8), (17, 8), (18, 8), (19, 8), (21, 4), (22, 24), (23, 24), (24, 24), (25, 8), (27, 8), (28, 8), (29, 8), (30, 8), (31, 8), (32, 24), (33, 72), (34, 72), (35, 8), (36, 8), (37, 8), (39, 8), (41, 8), (43, 8), (44, 8), (45, 24), (46, 8), (47, 8), (48, 8), (49, 8), (50, 8), (51, 24), (52, 8), (53, 8), (54, 8), (55, 8), (56, 8), (57, 72), (58, 72), (59, 8), (60, 8), (61, 24), (62, 8), (63, 8), (64, 8), (65, 8), (66, 8), (67, 8), (68, 8), (69, 8), (70, 8), (71, 8), (72, 8), (73, 40), (74, 40), (75, 0), (76, 0), (77, 0), (78, 8), (79, 4), (80, 1), (81, 1), (82, 8), (83, 8), (84, 4), (85, 4), (86, 48), (87, 48), (88, 8)], zero := [(1, [.nilFunc]), (2, [(.int .i64 0)]), (3, [(.int .i64 0)]), (4, [(.bool false)]), (5, [(.int .u8 0)]), (6, [(.int .u8 0)]), (7, [(.int .i64 0), (.int .i64 0), (.bool false), (.int .u8 0)]), (8, [(.int .i64 0), (.int .i64 0), (.bool false), (.int .u8 0)]), (9, [(.string ⟨#[]⟩)]), (10, [(.string ⟨#[]⟩)]), (11, [(.string ⟨#[]⟩)]), (12, [(.int .u64 0)]), (13, [(.string ⟨#[]⟩), (.int .u64 0)]), (14, [(.string ⟨#[]⟩), (.int .u64 0)]), (15, [(.pointer none)]), (16, [(.pointer none)]), (17, [(.pointer none)]), (18, [(.pointer none)]), (19, [(.pointer none)]), (21, [(.int .i32 0)]), (22, [(.slice none 0 0)]), (23, [(.slice none 0 0)]), (24, [(.slice none 0 0)]), (25, [(.pointer none)]), (27, [.nilFunc]), (28, [.nilFunc]), (29, [.nilFunc]), (30, [.nilFunc]), (31, [.nilFunc]), (32, [(.slice none 0 0)]), (33, [(.int .i64 0), (.int .i64 0), (.string ⟨#[]⟩), (.string ⟨#[]⟩), (.slice none 0 0)]), (34, [(.int .i64 0), (.int .i64 0), (.string ⟨#[]⟩), (.string ⟨#[]⟩), (.slice none 0 0)]), (35, [.nilFunc]), (36, [.nilFunc]), (37, [(.int .i64 0)]), (39, [.nilFunc]), (41, [.nilFunc]), (43, [.nilFunc]), (44, [.nilFunc]), (45, [(.slice none 0 0)]), (46, [.nilFunc]), (47, [.nilFunc]), (48, [.nilFunc]), (49, [.nilFunc]), (50, [.nilFunc]), (51, [(.slice none 0 0)]), (52, [.nilFunc]), (53, [.nilFunc]), (54, [.nilFunc]), (55, [.nilFunc]), (56, [.nilFunc]), (57, [(.int .i64 0), (.int .i64 0), (.string ⟨#[]⟩), (.string ⟨#[]⟩), (.slice none 0 0)]), (58, [(.int .i64 0), (.int .i64 0), (.string ⟨#[]⟩), (.string ⟨#[]⟩), (.slice none 0 0)]), (59, [.nilFunc]), (60, [.nilFunc]), (61, [(.slice none 0 0)]), (62, [.nilFunc]), (63, [.nilFunc]), (64, [.nilFunc]), (65, [.nilFunc]), (66, [.nilFunc]), (67, [.nilFunc]), (68, [.nilFunc]), (69, [.nilFunc]), (70, [.nilFunc]), (71, [.nilFunc]), (72, [.nilFunc]), (73, [(.pointer none), (.pointer none), (.pointer none), (.string ⟨#[]⟩)]), (74, [(.pointer none), (.pointer none), (.pointer none), (.string ⟨#[]⟩)]), (75, []), (76, []), (77, []), (78, [.nilFunc]), (79, [(.int .u32 0)]), (80, [(.int .u8 0)]), (81, [(.int .u8 0)]), (82, [.nilFunc]), (83, [(.pointer none)]), (84, [(.int .i32 0)]), (85, [(.int .i32 0)]), (86, [(.int .u64 0), (.int .u64 0), (.int .u32 0), (.int .u8 0), (.int .u8 0), (.int .u8 0), (.int .u8 0), .nilFunc, (.pointer none), (.int .i32 0), (.int .i32 0)]), (87, [(.int .u64 0), (.int .u64 0), (.int .u32 0), (.int .u8 0), (.int .u8 0), (.int .u8 0), (.int .u8 0), .nilFunc, (.pointer none), (.int .i32 0), (.int .i32 0)]), (88, [(.pointer none)])], fld := [(7, [(2, 0, 1), (3, 1, 1), (4, 2, 1), (6, 3, 1)]), (8, [(2, 0, 1), (3, 1, 1), (4, 2, 1), (6, 3, 1)]), (13, [(9, 0, 1), (12, 1, 1)]), (14, [(9, 0, 1), (12, 1, 1)]), (18, [(17, 0, 1)]), (19, [(17, 0, 1)]), (23, [(22, 0, 1)]), (24, [(22, 0, 1)]), (33, [(3, 0, 1), (3, 1, 1), (9, 2, 1), (9, 3, 1), (32, 4, 1)]), (34, [(3, 0, 1), (3, 1, 1), (9, 2, 1), (9, 3, 1), (32, 4, 1)]), (57, [(3, 0, 1), (3, 1, 1), (9, 2, 1), (9, 3, 1), (45, 4, 1)]), (58, [(3, 0, 1), (3, 1, 1), (9, 2, 1), (9, 3, 1), (45, 4, 1)]), (73, [(17, 0, 1), (17, 1, 1), (17, 2, 1), (9, 3, 1)]), (74, [(17, 0, 1), (17, 1, 1), (17, 2, 1), (9, 3, 1)]), (76, [(75, 0, 0)]), (77, [(75, 0, 0)]), (86, [(12, 0, 1), (12, 1, 1), (79, 2, 1), (80, 3, 1), (5, 4, 1), (5, 5, 1), (81, 6, 1), (82, 7, 1), (83, 8, 1), (84, 9, 1), (85, 10, 1)]), (87, [(12, 0, 1), (12, 1, 1), (79, 2, 1), (80, 3, 1), (5, 4, 1), (5, 5, 1), (81, 6, 1), (82, 7, 1), (83, 8, 1), (84, 9, 1), (85, 10, 1)])] }
theorem tt_ok : TTok Try.prog tt := ⟨by kernel_rfl, by kernel_rfl, by kernel_rfl, by kernel_rfl, by kernel_rfl⟩
theorem mixed : Try.prog.follows .mixedOrders = true := by kernel_rfl
def arena_Copy_S (K : Nat) : Prop := ∀ (p0 : Tr) (r : Tr), arena_Copy K p0 = some r → ACalls Try.prog 17 [(.tree p0)] [] (fun av s => av = (.tree r) ∧ s = [])
theorem arena_Copy_step (K : Nat) (IH : ∀ j, j < K → arena_Copy_S j) : arena_Copy_S K := by
  intro p0 r h
  cases K with
  | zero => cases h
  | succ k0 =>
  refine acalls_enter Try.func17 rfl rfl ?_
  refine aw_seq ?_
  refine aw_normal [(0, (.tree p0))] (s' := []) (by kernel_rfl) rfl ?_
  refine aw_reg ?_
  refine at_run tt_ok 1 [(0, (.tree p0))] rfl (by kernel_rfl) ?_
  refine at_end rfl ?_
  refine aw_seq ?_
  refine aw_seq ?_
  refine aw_reg ?_
  refine at_run tt_ok 1 [(0, (.tree p0)), (6, (.tree p0))] rfl (by kernel_rfl) ?_
  cases p0 with
  | nil =>
    refine at_run tt_ok 2 [(0, (.tree (.nil))), (7, (.b true))] rfl (by kernel_rfl) ?_
    refine at_end rfl ?_
    refine aw_cond true rfl (fun _ => ?_) (fun h => by cases h)
    refine aw_seq ?_
    refine aw_reg ?_
    refine at_run tt_ok 1 [(2, .nil)] rfl (by kernel_rfl) ?_
    refine at_end rfl ?_
    refine aw_ret ?_
    obtain rfl := Option.some.inj h
    exact ⟨.nil, (.tree (.nil)), _, (res_tmps (by kernel_rfl)), (View.of_weak Weak.nil_tree), ⟨_, perm_sel _ [], List.take_sublist 0 _⟩, rfl, rfl⟩
  | node n1 n2 n3 n4 n5 =>
    refine at_run tt_ok 2 [(0, (.tree ((.node n1 n2 n3 n4 n5)))), (7, (.b false))] rfl (by kernel_rfl) ?_
    refine at_end rfl ?_
    refine aw_cond false rfl (fun h => by cases h) (fun _ => ?_)
    refine aw_skip ?_
    refine aw_seq ?_
    refine aw_reg ?_
    refine at_run tt_ok 3 [(0, (.tree ((.node n1 n2 n3 n4 n5)))), (10, (.agg [(.i n1), (.i n2), (.s n3), (.s n4), (.slc (n5.map AV.tree) n5.length false)]))] rfl (by kernel_rfl) ?_
    refine at_op rfl rfl rfl (aop_alloc (zs := [(.int .i64 0), (.int .i64 0), (.string ⟨#[]⟩), (.string ⟨#[]⟩), (.slice none 0 0)]) tt_ok rfl rfl rfl) ?_
    rintro _ _ ⟨o6, rfl, rfl⟩
    refine at_one rfl rfl rfl (aop_storeRef (id := o6) (off := 0) (j := 0) (ds := [(.i n1), (.i n2), (.s n3), (.s n4), (.slc (n5.map AV.tree) n5.length false)]) tt_ok rfl rfl rfl rfl rfl) ?_
    refine at_end rfl ?_
    refine aw_seq ?_
    refine aw_normal [(0, (.tree ((.node n1 n2 n3 n4 n5)))), (3, (.ref o6 0))] (s' := [(o6, .row 34 5 [(.i n1), (.i n2), (.s n3), (.s n4), (.slc (n5.map AV.tree) n5.length false)] 0)]) (by kernel_rfl) rfl ?_
    refine aw_reg ?_
    refine at_run tt_ok 1 [(0, (.tree ((.node n1 n2 n3 n4 n5)))), (3, (.ref o6 0)), (11, (.ref o6 4))] rfl (by kernel_rfl) ?_
    refine at_one rfl rfl rfl (aop_storeRef (id := o6) (off := 4) (j := 0) (ds := [(.lit (.slice none 0 0))]) tt_ok rfl rfl rfl rfl rfl) ?_
    refine at_end rfl ?_
    refine aw_seq ?_
    refine aw_seq ?_
    refine aw_normal [(0, (.tree ((.node n1 n2 n3 n4 n5)))), (3, (.ref o6 0))] (s' := [(o6, .row 34 5 [(.i n1), (.i n2), (.s n3), (.s n4), (.lit (.slice none 0 0))] 0)]) (by kernel_rfl) rfl ?_
    refine aw_reg ?_
    refine at_run tt_ok 6 [(3, (.ref o6 0)), (15, (.slc (n5.map AV.tree) n5.length false)), (16, (.i (((n5.length : Nat) : Int)))), (17, (.i 0))] rfl (by kernel_rfl) ?_
    refine at_end rfl ?_
    refine aw_block ?_
    refine aw_adoptCell (j := 0) 4 25 1 rfl rfl (fun o9 => ?_)
    refine aw_normal [(3, (.ref o6 0)), (15, (.slc (n5.map AV.tree) n5.length false)), (16, (.i (((n5.length : Nat) : Int)))), (17, (.i 0))] (s' := [(o9, .row 25 1 ((([] : List Tr)).map AV.tree) 0), (o6, .row 34 5 [(.i n1), (.i n2), (.s n3), (.s n4), (.row o9 (([] : List Tr)).length)] 0)]) (by kernel_rfl) rfl ?_
    refine aw_loop_ind' (X := Int × (List Tr) × Nat) (fun k' x => k' ≤ k0 ∧ arena_Copy_l0 k' n1 n2 n3 n4 n5 x.1 x.2.1 = some r) (fun x => [(3, (.ref o6 0)), (15, (.slc (n5.map AV.tree) n5.length false)), (16, (.i (((n5.length : Nat) : Int)))), (17, (.i x.1))]) (fun x => [(x.2.2, .row 25 1 (x.2.1.map AV.tree) 0), (o6, .row 34 5 [(.i n1), (.i n2), (.s n3), (.s n4), (.row x.2.2 x.2.1.length)] 0)]) (fun x hx => by cases hx.2) ?_ k0 (0, ([] : List Tr), o9) ⟨Nat.le_refl _, h⟩ (by kernel_rfl) rfl
    clear h
    rintro k13 ⟨w0_2, w0_3, i0_1⟩ ⟨hlek13, h⟩
    refine aw_seq ?_
    refine aw_reg ?_
    refine at_run tt_ok 1 [(3, (.ref o6 0)), (15, (.slc (n5.map AV.tree) n5.length false)), (16, (.i (((n5.length : Nat) : Int)))), (17, (.i w0_2)), (18, (.b ((decide (w0_2 < (((n5.length : Nat) : Int)))))))] rfl (by kernel_rfl) ?_
    refine at_end rfl ?_
    refine aw_seq ?_
    refine aw_cond ((decide (w0_2 < (((n5.length : Nat) : Int))))) rfl (fun hb14 => ?_) (fun hb14 => ?_)
    · have h := ite_t hb14 h
      refine aw_skip ?_
      refine aw_seq ?_
      refine aw_block ?_
      refine aw_seq ?_
      refine aw_reg ?_
      obtain ⟨v15, hv15, h⟩ := bind_some' h
      refine at_one rfl rfl rfl (aop_idx1 (k := .i64) (g := AV.tree) (l := n5) (fu := false) (j := w0_2) (v := v15) tt_ok rfl rfl rfl rfl rfl hv15) ?_
      refine at_run tt_ok 3 [(3, (.ref o6 0)), (5, (.tree v15)), (15, (.slc (n5.map AV.tree) n5.length false)), (16, (.i (((n5.length : Nat) : Int)))), (17, (.i w0_2))] rfl (by kernel_rfl) ?_
      refine at_end rfl ?_
      refine aw_draw mixed (by kernel_rfl) ?_
      refine j_run tt_ok [0, 2] [2, 0] (by kernel_rfl) ?_
      refine j_light1 1 (o6, .row 34 5 [(.i n1), (.i n2), (.s n3), (.s n4), (.row i0_1 w0_3.length)] 0) rfl (by kernel_rfl) rfl (by kernel_rfl) (fun s hq => (aop_loadM (av := (.row i0_1 w0_3.length)) (off := 4) tt_ok hq rfl (by kernel_rfl) (by kernel_rfl))) (j := 1) rfl ?_
      obtain ⟨v18, hc19, h⟩ := bind_some' h
      refine .heavy 3 _ _ rfl (by kernel_rfl) rfl (by kernel_rfl) (aop_call (first := []) (caps := []) (xs := [(.tree v15)]) (args' := [(.tree v15)]) (sm := []) (r := [(i0_1, .row 25 1 (w0_3.map AV.tree) 0), (o6, .row 34 5 [(.i n1), (.i n2), (.s n3), (.s n4), (.row i0_1 w0_3.length)] 0)]) rfl (by kernel_rfl) Try.func17 rfl rfl ((IH k13 (by omega)) v15 _ hc19) (by kernel_rfl) (VW.refl _) (permTo [] (by kernel_rfl))) ?_ ?_
      · rintro _ _ ⟨_, ⟨rfl, rfl⟩, rfl⟩ l hl
        rcases List.mem_cons.1 hl with rfl | hl
        · exact .inr (fun p hp => by rw [List.mem_singleton.1 hp]; exact List.mem_of_getElem? (i := 1) rfl)
        · cases hl
      rintro _ _ ⟨_, ⟨rfl, rfl⟩, rfl⟩
      refine j_run tt_ok [4] [4, 3, 1, 2, 0] (by kernel_rfl) ?_
      obtain ⟨v22, hv22, h⟩ := bind_some' h
      refine .heavy 5 _ _ rfl (by kernel_rfl) rfl (by kernel_rfl) (aop_app1 (g := AV.tree) (l := w0_3) (d := ([v18] : List Tr)) (v := v22) (f := true) (id := i0_1) (j := 0) tt_ok hv22 rfl rfl rfl rfl rfl rfl rfl (by kernel_rfl) (by kernel_rfl) rfl) ?_ ?_
      · rintro _ _ ⟨o23, rfl, rfl⟩ l hl
        rcases List.mem_cons.1 hl with rfl | hl
        · exact .inl (by kernel_rfl)
        · cases hl
      rintro _ _ ⟨o23, rfl, rfl⟩
      refine j_run tt_ok [6] [6, 5, 4, 3, 1, 2, 0] (by kernel_rfl) ?_
      refine .heavy 7 _ _ rfl (by kernel_rfl) rfl (by kernel_rfl) (aop_storeRef (id := o6) (off := 4) (j := 1) (ds := [(.row o23 v22.length)]) tt_ok rfl (by kernel_rfl) rfl (by kernel_rfl) rfl) ?_ ?_
      · rintro _ _ ⟨rfl, rfl⟩ l hl
        rcases List.mem_cons.1 hl with rfl | hl
        · exact .inl (by kernel_rfl)
        · cases hl
      rintro _ _ ⟨rfl, rfl⟩
      refine .done (by kernel_rfl) ?_
      refine aw_normal [(3, (.ref o6 0)), (15, (.slc (n5.map AV.tree) n5.length false)), (16, (.i (((n5.length : Nat) : Int)))), (17, (.i w0_2))] (s' := [(o23, .row 25 1 (v22.map AV.tree) 0), (o6, .row 34 5 [(.i n1), (.i n2), (.s n3), (.s n4), (.row o23 v22.length)] 0)]) (by kernel_rfl) rfl ?_
      refine aw_reg ?_
      refine at_run tt_ok 2 [(3, (.ref o6 0)), (15, (.slc (n5.map AV.tree) n5.length false)), (16, (.i (((n5.length : Nat) : Int)))), (17, (.i ((IntKind.i64.wrap (w0_2 + 1)))))] rfl (by kernel_rfl) ?_
      refine at_end rfl ?_
      exact ⟨k13, ((IntKind.i64.wrap (w0_2 + 1)), v22, o23), [0, 0], [], by omega, ⟨by omega, h⟩, by kernel_rfl, rfl⟩
    · have h := ite_f (by rw [hb14]; simp) h
      refine aw_exit ?_
      refine aw_seq ?_
      refine aw_reg ?_
      refine at_run tt_ok 1 [(2, (.ref o6 0))] rfl (by kernel_rfl) ?_
      refine at_end rfl ?_
      refine aw_shift (Shift.frz (j := 0) rfl) ?_
      refine aw_shift (Shift.cell (j := 1) 4 rfl rfl (View.row (j := 0) rfl (fun h => by rw [List.eq_nil_of_length_eq_zero h]; rfl))) ?_
      refine aw_shift (Shift.frz (j := 1) rfl) ?_
      refine aw_ret ?_
      obtain rfl := Option.some.inj h
      exact ⟨(.ref o6 0), (.tree ((.node n1 n2 n3 n4 w0_3))), _, (res_tmps (by kernel_rfl)), ((View.ref (j := 1) rfl).trans (View.of_weak (Weak.node_tree _ _ _ _ _))), ⟨_, perm_sel _ [], List.take_sublist 0 _⟩, rfl, rfl⟩
theorem arena_Copy_all (K : Nat) : arena_Copy_S K := by
  induction K using Nat.strongRecOn with
  | _ K IH => exact arena_Copy_step K IH
theorem arena_Copy_ok (K : Nat) : ∀ (p0 : Tr) (r : Tr), arena_Copy K p0 = some r → ACalls Try.prog 17 [(.tree p0)] [] (fun av s => av = (.tree r) ∧ s = []) := (arena_Copy_all K)
theorem arena_Copy_opt_ok (K : Nat) : ∀ (p0 : Tr) (r : (Option (Int × Int × List UInt8 × List UInt8 × List Tr))), arena_Copy_opt K p0 = some r → ACalls Try.prog 17 [(.tree p0)] [] (fun av s => (r = none ∧ av = .nil ∧ s = []) ∨ ∃ (x0 : Nat) (a b : Int) (c d : List UInt8) (e : List Tr), r = some (a, b, c, d, e) ∧ av = .ref x0 0 ∧ s = [(x0, .row 34 5 [.i a, .i b, .s c, .s d, .slc (e.map AV.tree) e.length false] 0)]) := by
  intro p0 r h
  refine acalls_enter Try.func17 rfl rfl ?_
  refine aw_seq ?_
  refine aw_normal [(0, (.tree p0))] (s' := []) (by kernel_rfl) rfl ?_
  refine aw_reg ?_
  refine at_run tt_ok 1 [(0, (.tree p0))] rfl (by kernel_rfl) ?_
  refine at_end rfl ?_
  refine aw_seq ?_
  refine aw_seq ?_
  refine aw_reg ?_
  refine at_run tt_ok 1 [(0, (.tree p0)), (6, (.tree p0))] rfl (by kernel_rfl) ?_
  cases p0 with
  | nil =>
    refine at_run tt_ok 2 [(0, (.tree (.nil))), (7, (.b true))] rfl (by kernel_rfl) ?_
    refine at_end rfl ?_
    refine aw_cond true rfl (fun _ => ?_) (fun h => by cases h)
    refine aw_seq ?_
    refine aw_reg ?_
    refine at_run tt_ok 1 [(2, .nil)] rfl (by kernel_rfl) ?_
    refine at_end rfl ?_
    refine aw_ret ?_
    obtain rfl := Option.some.inj h
    exact ⟨.nil, .nil, _, (res_tmps (by kernel_rfl)), (View.refl _), ⟨_, perm_sel _ [], List.take_sublist 0 _⟩, .inl ⟨rfl, rfl, rfl⟩⟩
  | node n1 n2 n3 n4 n5 =>
    refine at_run tt_ok 2 [(0, (.tree ((.node n1 n2 n3 n4 n5)))), (7, (.b false))] rfl (by kernel_rfl) ?_
    refine at_end rfl ?_
    refine aw_cond false rfl (fun h => by cases h) (fun _ => ?_)
    refine aw_skip ?_
    refine aw_seq ?_
    refine aw_reg ?_
    refine at_run tt_ok 3 [(0, (.tree ((.node n1 n2 n3 n4 n5)))), (10, (.agg [(.i n1), (.i n2), (.s n3), (.s n4), (.slc (n5.map AV.tree) n5.length false)]))] rfl (by kernel_rfl) ?_
    refine at_op rfl rfl rfl (aop_alloc (zs := [(.int .i64 0), (.int .i64 0), (.string ⟨#[]⟩), (.string ⟨#[]⟩), (.slice none 0 0)]) tt_ok rfl rfl rfl) ?_
    rintro _ _ ⟨o6, rfl, rfl⟩
    refine at_one rfl rfl rfl (aop_storeRef (id := o6) (off := 0) (j := 0) (ds := [(.i n1), (.i n2), (.s n3), (.s n4), (.slc (n5.map AV.tree) n5.length false)]) tt_ok rfl rfl rfl rfl rfl) ?_
    refine at_end rfl ?_
    refine aw_seq ?_
    refine aw_normal [(0, (.tree ((.node n1 n2 n3 n4 n5)))), (3, (.ref o6 0))] (s' := [(o6, .row 34 5 [(.i n1), (.i n2), (.s n3), (.s n4), (.slc (n5.map AV.tree) n5.length false)] 0)]) (by kernel_rfl) rfl ?_
    refine aw_reg ?_
    refine at_run tt_ok 1 [(0, (.tree ((.node n1 n2 n3 n4 n5)))), (3, (.ref o6 0)), (11, (.ref o6 4))] rfl (by kernel_rfl) ?_
    refine at_one rfl rfl rfl (aop_storeRef (id := o6) (off := 4) (j := 0) (ds := [(.lit (.slice none 0 0))]) tt_ok rfl rfl rfl rfl rfl) ?_
    refine at_end rfl ?_
    refine aw_seq ?_
    refine aw_seq ?_
    refine aw_normal [(0, (.tree ((.node n1 n2 n3 n4 n5)))), (3, (.ref o6 0))] (s' := [(o6, .row 34 5 [(.i n1), (.i n2), (.s n3), (.s n4), (.lit (.slice none 0 0))] 0)]) (by kernel_rfl) rfl ?_
    refine aw_reg ?_
    refine at_run tt_ok 6 [(3, (.ref o6 0)), (15, (.slc (n5.map AV.tree) n5.length false)), (16, (.i (((n5.length : Nat) : Int)))), (17, (.i 0))] rfl (by kernel_rfl) ?_
    refine at_end rfl ?_
    refine aw_block ?_
    refine aw_adoptCell (j := 0) 4 25 1 rfl rfl (fun o9 => ?_)
    refine aw_normal [(3, (.ref o6 0)), (15, (.slc (n5.map AV.tree) n5.length false)), (16, (.i (((n5.length : Nat) : Int)))), (17, (.i 0))] (s' := [(o9, .row 25 1 ((([] : List Tr)).map AV.tree) 0), (o6, .row 34 5 [(.i n1), (.i n2), (.s n3), (.s n4), (.row o9 (([] : List Tr)).length)] 0)]) (by kernel_rfl) rfl ?_
    refine aw_loop_ind' (X := Int × (List Tr) × Nat) (fun k' x => k' ≤ K ∧ arena_Copy_opt_l0 k' n1 n2 n3 n4 n5 x.1 x.2.1 = some r) (fun x => [(3, (.ref o6 0)), (15, (.slc (n5.map AV.tree) n5.length false)), (16, (.i (((n5.length : Nat) : Int)))), (17, (.i x.1))]) (fun x => [(x.2.2, .row 25 1 (x.2.1.map AV.tree) 0), (o6, .row 34 5 [(.i n1), (.i n2), (.s n3), (.s n4), (.row x.2.2 x.2.1.length)] 0)]) (fun x hx => by cases hx.2) ?_ K (0, ([] : List Tr), o9) ⟨Nat.le_refl _, h⟩ (by kernel_rfl) rfl
    clear h
    rintro k13 ⟨w0_2, w0_3, i0_1⟩ ⟨hlek13, h⟩
    refine aw_seq ?_
    refine aw_reg ?_
    refine at_run tt_ok 1 [(3, (.ref o6 0)), (15, (.slc (n5.map AV.tree) n5.length false)), (16, (.i (((n5.length : Nat) : Int)))), (17, (.i w0_2)), (18, (.b ((decide (w0_2 < (((n5.length : Nat) : Int)))))))] rfl (by kernel_rfl) ?_
    refine at_end rfl ?_
    refine aw_seq ?_
    refine aw_cond ((decide (w0_2 < (((n5.length : Nat) : Int))))) rfl (fun hb14 => ?_) (fun hb14 => ?_)
    · have h := ite_t hb14 h
      refine aw_skip ?_
      refine aw_seq ?_
      refine aw_block ?_
      refine aw_seq ?_
      refine aw_reg ?_
      obtain ⟨v15, hv15, h⟩ := bind_some' h
      refine at_one rfl rfl rfl (aop_idx1 (k := .i64) (g := AV.tree) (l := n5) (fu := false) (j := w0_2) (v := v15) tt_ok rfl rfl rfl rfl rfl hv15) ?_
      refine at_run tt_ok 3 [(3, (.ref o6 0)), (5, (.tree v15)), (15, (.slc (n5.map AV.tree) n5.length false)), (16, (.i (((n5.length : Nat) : Int)))), (17, (.i w0_2))] rfl (by kernel_rfl) ?_
      refine at_end rfl ?_
      refine aw_draw mixed (by kernel_rfl) ?_
      refine j_run tt_ok [0, 2] [2, 0] (by kernel_rfl) ?_
      refine j_light1 1 (o6, .row 34 5 [(.i n1), (.i n2), (.s n3), (.s n4), (.row i0_1 w0_3.length)] 0) rfl (by kernel_rfl) rfl (by kernel_rfl) (fun s hq => (aop_loadM (av := (.row i0_1 w0_3.length)) (off := 4) tt_ok hq rfl (by kernel_rfl) (by kernel_rfl))) (j := 1) rfl ?_
      obtain ⟨v18, hc19, h⟩ := bind_some' h
      refine .heavy 3 _ _ rfl (by kernel_rfl) rfl (by kernel_rfl) (aop_call (first := []) (caps := []) (xs := [(.tree v15)]) (args' := [(.tree v15)]) (sm := []) (r := [(i0_1, .row 25 1 (w0_3.map AV.tree) 0), (o6, .row 34 5 [(.i n1), (.i n2), (.s n3), (.s n4), (.row i0_1 w0_3.length)] 0)]) rfl (by kernel_rfl) Try.func17 rfl rfl (arena_Copy_ok k13 v15 _ hc19) (by kernel_rfl) (VW.refl _) (permTo [] (by kernel_rfl))) ?_ ?_
      · rintro _ _ ⟨_, ⟨rfl, rfl⟩, rfl⟩ l hl
        rcases List.mem_cons.1 hl with rfl | hl
        · exact .inr (fun p hp => by rw [List.mem_singleton.1 hp]; exact List.mem_of_getElem? (i := 1) rfl)
        · cases hl
      rintro _ _ ⟨_, ⟨rfl, rfl⟩, rfl⟩
      refine j_run tt_ok [4] [4, 3, 1, 2, 0] (by kernel_rfl) ?_
      obtain ⟨v22, hv22, h⟩ := bind_some' h
      refine .heavy 5 _ _ rfl (by kernel_rfl) rfl (by kernel_rfl) (aop_app1 (g := AV.tree) (l := w0_3) (d := ([v18] : List Tr)) (v := v22) (f := true) (id := i0_1) (j := 0) tt_ok hv22 rfl rfl rfl rfl rfl rfl rfl (by kernel_rfl) (by kernel_rfl) rfl) ?_ ?_
      · rintro _ _ ⟨o23, rfl, rfl⟩ l hl
        rcases List.mem_cons.1 hl with rfl | hl
        · exact .inl (by kernel_rfl)
        · cases hl
      rintro _ _ ⟨o23, rfl, rfl⟩
      refine j_run tt_ok [6] [6, 5, 4, 3, 1, 2, 0] (by kernel_rfl) ?_
      refine .heavy 7 _ _ rfl (by kernel_rfl) rfl (by kernel_rfl) (aop_storeRef (id := o6) (off := 4) (j := 1) (ds := [(.row o23 v22.length)]) tt_ok rfl (by kernel_rfl) rfl (by kernel_rfl) rfl) ?_ ?_
      · rintro _ _ ⟨rfl, rfl⟩ l hl
        rcases List.mem_cons.1 hl with rfl | hl
        · exact .inl (by kernel_rfl)
        · cases hl
      rintro _ _ ⟨rfl, rfl⟩
      refine .done (by kernel_rfl) ?_
      refine aw_normal [(3, (.ref o6 0)), (15, (.slc (n5.map AV.tree) n5.length false)), (16, (.i (((n5.length : Nat) : Int)))), (17, (.i w0_2))] (s' := [(o23, .row 25 1 (v22.map AV.tree) 0), (o6, .row 34 5 [(.i n1), (.i n2), (.s n3), (.s n4), (.row o23 v22.length)] 0)]) (by kernel_rfl) rfl ?_
      refine aw_reg ?_
      refine at_run tt_ok 2 [(3, (.ref o6 0)), (15, (.slc (n5.map AV.tree) n5.length false)), (16, (.i (((n5.length : Nat) : Int)))), (17, (.i ((IntKind.i64.wrap (w0_2 + 1)))))] rfl (by kernel_rfl) ?_
      refine at_end rfl ?_
      exact ⟨k13, ((IntKind.i64.wrap (w0_2 + 1)), v22, o23), [0, 0], [], by omega, ⟨by omega, h⟩, by kernel_rfl, rfl⟩
    · have h := ite_f (by rw [hb14]; simp) h
      refine aw_exit ?_
      refine aw_seq ?_
      refine aw_reg ?_
      refine at_run tt_ok 1 [(2, (.ref o6 0))] rfl (by kernel_rfl) ?_
      refine at_end rfl ?_
      refine aw_shift (Shift.frz (j := 0) rfl) ?_
      refine aw_shift (Shift.cell (j := 1) 4 rfl rfl (View.row (j := 0) rfl (fun h => by rw [List.eq_nil_of_length_eq_zero h]; rfl))) ?_
      refine aw_normal [(2, (.ref o6 0))] (s' := [(i0_1, .row 25 1 (w0_3.map AV.tree) (w0_3.map AV.tree).length), (o6, .row 34 5 [(.i n1), (.i n2), (.s n3), (.s n4), (.slc (w0_3.map AV.tree) w0_3.length false)] 0)]) (by kernel_rfl) rfl ?_
      refine aw_ret ?_
      obtain rfl := Option.some.inj h
      exact ⟨(.ref o6 0), (.ref o6 0), _, (res_tmps (by kernel_rfl)), (View.refl _), ⟨_, perm_sel _ [1], List.take_sublist 1 _⟩, .inr ⟨o6, _, _, _, _, _, rfl, rfl, rfl⟩⟩
def arena_Deep_S (K : Nat) : Prop := ∀ (p0 : Tr) (r : Int), arena_Deep K p0 = some r → ACalls Try.prog 15 [(.tree p0)] [] (fun av s => av = (.i r) ∧ s = [])
theorem arena_Deep_step (K : Nat) (IH : ∀ j, j < K → arena_Deep_S j) : arena_Deep_S K := by
  intro p0 r h
  cases K with
  | zero => cases h
  | succ k0 =>
  refine acalls_enter Try.func15 rfl rfl ?_
  refine aw_seq ?_
  refine aw_normal [(0, (.tree p0))] (s' := []) (by kernel_rfl) rfl ?_
  refine aw_reg ?_
  refine at_run tt_ok 1 [(0, (.tree p0))] rfl (by kernel_rfl) ?_
  refine at_end rfl ?_
  refine aw_seq ?_
  refine aw_seq ?_
  refine aw_reg ?_
  refine at_run tt_ok 1 [(0, (.tree p0)), (6, (.tree p0))] rfl (by kernel_rfl) ?_
  cases p0 with
  | nil =>
    refine at_run tt_ok 2 [(0, (.tree (.nil))), (7, (.b true))] rfl (by kernel_rfl) ?_
    refine at_end rfl ?_
    refine aw_cond true rfl (fun _ => ?_) (fun h => by cases h)
    refine aw_seq ?_
    refine aw_reg ?_
    refine at_run tt_ok 1 [(2, (.i 0))] rfl (by kernel_rfl) ?_
    refine at_end rfl ?_
    refine aw_ret ?_
    obtain rfl := Option.some.inj h
    exact ⟨(.i 0), (.i 0), _, (res_tmps (by kernel_rfl)), (View.refl _), ⟨_, perm_sel _ [], List.take_sublist 0 _⟩, rfl, rfl⟩
  | node n1 n2 n3 n4 n5 =>
    refine at_run tt_ok 2 [(0, (.tree ((.node n1 n2 n3 n4 n5)))), (7, (.b false))] rfl (by kernel_rfl) ?_
    refine at_end rfl ?_
    refine aw_cond false rfl (fun h => by cases h) (fun _ => ?_)
    refine aw_skip ?_
    refine aw_seq ?_
    refine aw_reg ?_
    refine at_run tt_ok 1 [(0, (.tree ((.node n1 n2 n3 n4 n5)))), (3, (.i 0))] rfl (by kernel_rfl) ?_
    refine at_end rfl ?_
    refine aw_seq ?_
    refine aw_seq ?_
    refine aw_reg ?_
    refine at_run tt_ok 6 [(3, (.i 0)), (11, (.slc (n5.map AV.tree) n5.length false)), (12, (.i (((n5.length : Nat) : Int)))), (13, (.i 0))] rfl (by kernel_rfl) ?_
    refine at_end rfl ?_
    refine aw_block ?_
    refine aw_loop_ind' (X := Int × Int) (fun k' x => k' ≤ k0 ∧ arena_Deep_l0 k' n5 x.1 x.2 = some r) (fun x => [(3, (.i x.1)), (11, (.slc (n5.map AV.tree) n5.length false)), (12, (.i (((n5.length : Nat) : Int)))), (13, (.i x.2))]) (fun x => []) (fun x hx => by cases hx.2) ?_ k0 (0, 0) ⟨Nat.le_refl _, h⟩ (by kernel_rfl) rfl
    clear h
    rintro k9 ⟨w0_1, w0_2⟩ ⟨hlek9, h⟩
    refine aw_seq ?_
    refine aw_reg ?_
    refine at_run tt_ok 1 [(3, (.i w0_1)), (11, (.slc (n5.map AV.tree) n5.length false)), (12, (.i (((n5.length : Nat) : Int)))), (13, (.i w0_2)), (14, (.b ((decide (w0_2 < (((n5.length : Nat) : Int)))))))] rfl (by kernel_rfl) ?_
    refine at_end rfl ?_
    refine aw_seq ?_
    refine aw_cond ((decide (w0_2 < (((n5.length : Nat) : Int))))) rfl (fun hb10 => ?_) (fun hb10 => ?_)
    · have h := ite_t hb10 h
      refine aw_skip ?_
      refine aw_seq ?_
      refine aw_block ?_
      refine aw_seq ?_
      refine aw_reg ?_
      obtain ⟨v11, hv11, h⟩ := bind_some' h
      refine at_one rfl rfl rfl (aop_idx1 (k := .i64) (g := AV.tree) (l := n5) (fu := false) (j := w0_2) (v := v11) tt_ok rfl rfl rfl rfl rfl hv11) ?_
      refine at_run tt_ok 3 [(3, (.i w0_1)), (5, (.tree v11)), (11, (.slc (n5.map AV.tree) n5.length false)), (12, (.i (((n5.length : Nat) : Int)))), (13, (.i w0_2))] rfl (by kernel_rfl) ?_
      refine at_end rfl ?_
      refine aw_reg ?_
      refine at_run tt_ok 2 [(11, (.slc (n5.map AV.tree) n5.length false)), (12, (.i (((n5.length : Nat) : Int)))), (13, (.i w0_2)), (17, (.i w0_1)), (18, (.tree v11))] rfl (by kernel_rfl) ?_
      obtain ⟨v12, hc13, h⟩ := bind_some' h
      refine at_op rfl rfl rfl (aop_call (first := []) (caps := []) (xs := [(.tree v11)]) (args' := [(.tree v11)]) (sm := []) (r := []) rfl (by kernel_rfl) Try.func15 rfl rfl ((IH k9 (by omega)) v11 _ hc13) (by kernel_rfl) (VW.refl _) (permTo [] (by kernel_rfl))) ?_
      rintro _ _ ⟨_, ⟨rfl, rfl⟩, rfl⟩
      refine at_run tt_ok 5 [(3, (.i ((if w0_1 < v12 then v12 else w0_1)))), (11, (.slc (n5.map AV.tree) n5.length false)), (12, (.i (((n5.length : Nat) : Int)))), (13, (.i w0_2))] rfl (by kernel_rfl) ?_
      refine at_end rfl ?_
      refine aw_reg ?_
      refine at_run tt_ok 2 [(3, (.i ((if w0_1 < v12 then v12 else w0_1)))), (11, (.slc (n5.map AV.tree) n5.length false)), (12, (.i (((n5.length : Nat) : Int)))), (13, (.i ((IntKind.i64.wrap (w0_2 + 1)))))] rfl (by kernel_rfl) ?_
      refine at_end rfl ?_
      exact ⟨k9, ((if w0_1 < v12 then v12 else w0_1), (IntKind.i64.wrap (w0_2 + 1))), [], [], by omega, ⟨by omega, h⟩, by kernel_rfl, rfl⟩
    · have h := ite_f (by rw [hb10]; simp) h
      refine aw_exit ?_
      refine aw_seq ?_
      refine aw_reg ?_
      refine at_run tt_ok 3 [(2, (.i ((IntKind.i64.wrap (w0_1 + 1)))))] rfl (by kernel_rfl) ?_
      refine at_end rfl ?_
      refine aw_ret ?_
      obtain rfl := Option.some.inj h
      exact ⟨(.i ((IntKind.i64.wrap (w0_1 + 1)))), (.i ((IntKind.i64.wrap (w0_1 + 1)))), _, (res_tmps (by kernel_rfl)), (View.refl _), ⟨_, perm_sel _ [], List.take_sublist 0 _⟩, rfl, rfl⟩
theorem arena_Deep_all (K : Nat) : arena_Deep_S K := by
  induction K using Nat.strongRecOn with
  | _ K IH => exact arena_Deep_step K IH
theorem arena_Deep_ok (K : Nat) : ∀ (p0 : Tr) (r : Int), arena_Deep K p0 = some r → ACalls Try.prog 15 [(.tree p0)] [] (fun av s => av = (.i r) ∧ s = []) := (arena_Deep_all K)
def arena_Same_S (K : Nat) : Prop := ∀ (p0 : Tr) (p1 : Tr) (r : Bool), arena_Same K p0 p1 = some r → ACalls Try.prog 11 [(.tree p0), (.tree p1)] [] (fun av s => av = (.b r) ∧ s = [])
def slices_EqualFunc_S (K : Nat) : Prop := ∀ (p0 : List Tr) (p1 : List Tr) (r : Bool), slices_EqualFunc K p0 p1 = some r → ACalls Try.prog 32 [(.slc (p0.map AV.tree) p0.length false), (.slc (p1.map AV.tree) p1.length false), (.fn (.func 11) [] [])] [] (fun av s => av = (.b r) ∧ s = [])
theorem arena_Same_step (K : Nat) (IH : ∀ j, j < K → arena_Same_S j ∧ slices_EqualFunc_S j) : arena_Same_S K := by
  intro p0 p1 r h
  cases K with
  | zero => cases h
  | succ k0 =>
  refine acalls_enter Try.func11 rfl rfl ?_
  refine aw_seq ?_
  refine aw_normal [(0, (.tree p0)), (1, (.tree p1))] (s' := []) (by kernel_rfl) rfl ?_
  refine aw_reg ?_
  refine at_run tt_ok 1 [(0, (.tree p0)), (1, (.tree p1))] rfl (by kernel_rfl) ?_
  refine at_end rfl ?_
  refine aw_seq ?_
  refine aw_seq ?_
  refine aw_reg ?_
  refine at_run tt_ok 1 [(0, (.tree p0)), (1, (.tree p1)), (5, (.tree p0))] rfl (by kernel_rfl) ?_
  cases p0 with
  | nil =>
    refine at_run tt_ok 6 [(0, (.tree (.nil))), (1, (.tree p1)), (10, (.b true))] rfl (by kernel_rfl) ?_
    refine at_end rfl ?_
    refine aw_cond true rfl (fun _ => ?_) (fun h => by cases h)
    refine aw_seq ?_
    refine aw_reg ?_
    refine at_run tt_ok 4 [(13, (.b true)), (14, (.tree p1))] rfl (by kernel_rfl) ?_
    cases p1 with
    | nil =>
      refine at_run tt_ok 7 [(4, (.b true))] rfl (by kernel_rfl) ?_
      refine at_end rfl ?_
      refine aw_ret ?_
      obtain rfl := Option.some.inj h
      exact ⟨(.b true), (.b true), _, (res_tmps (by kernel_rfl)), (View.refl _), ⟨_, perm_sel _ [], List.take_sublist 0 _⟩, rfl, rfl⟩
    | node n1 n2 n3 n4 n5 =>
      refine at_run tt_ok 7 [(4, (.b false))] rfl (by kernel_rfl) ?_
      refine at_end rfl ?_
      refine aw_ret ?_
      obtain rfl := Option.some.inj h
      exact ⟨(.b false), (.b false), _, (res_tmps (by kernel_rfl)), (View.refl _), ⟨_, perm_sel _ [], List.take_sublist 0 _⟩, rfl, rfl⟩
  | node n6 n7 n8 n9 n10 =>
    refine at_run tt_ok 4 [(0, (.tree ((.node n6 n7 n8 n9 n10)))), (1, (.tree p1)), (7, (.b false)), (8, (.tree p1))] rfl (by kernel_rfl) ?_
    cases p1 with
    | nil =>
      refine at_run tt_ok 6 [(0, (.tree ((.node n6 n7 n8 n9 n10)))), (1, (.tree (.nil))), (10, (.b true))] rfl (by kernel_rfl) ?_
      refine at_end rfl ?_
      refine aw_cond true rfl (fun _ => ?_) (fun h => by cases h)
      refine aw_seq ?_
      refine aw_reg ?_
      refine at_run tt_ok 7 [(4, (.b false))] rfl (by kernel_rfl) ?_
      refine at_end rfl ?_
      refine aw_ret ?_
      obtain rfl := Option.some.inj h
      exact ⟨(.b false), (.b false), _, (res_tmps (by kernel_rfl)), (View.refl _), ⟨_, perm_sel _ [], List.take_sublist 0 _⟩, rfl, rfl⟩
    | node n11 n12 n13 n14 n15 =>
      refine at_run tt_ok 6 [(0, (.tree ((.node n6 n7 n8 n9 n10)))), (1, (.tree ((.node n11 n12 n13 n14 n15)))), (10, (.b false))] rfl (by kernel_rfl) ?_
      refine at_end rfl ?_
      refine aw_cond false rfl (fun h => by cases h) (fun _ => ?_)
      refine aw_skip ?_
      refine aw_seq ?_
      refine aw_draw mixed (by kernel_rfl) ?_
      refine j_run tt_ok [0, 1, 2, 3, 4, 5, 6, 7, 8, 9] [9, 8, 7, 6, 5, 4, 3, 2, 1, 0] (by kernel_rfl) ?_
      by_cases hb16 : (decide (n6 = n11)) = true
      · have h := ite_t hb16 h
        refine j_setb 26 (by kernel_rfl) hb16 ?_
        refine j_run tt_ok [10, 11, 12, 13, 14, 15, 16, 17, 18, 19, 20] [20, 19, 18, 17, 16, 15, 14, 13, 12, 11, 10, 9, 8, 7, 6, 5, 4, 3, 2, 1, 0] (by kernel_rfl) ?_
        by_cases hb17 : (decide (n7 = n12)) = true
        · have h := ite_t hb17 h
          refine j_setb 37 (by kernel_rfl) hb17 ?_
          refine j_run tt_ok [21, 22, 23, 24, 25, 26, 27, 28, 29, 30, 31] [31, 30, 29, 28, 27, 26, 25, 24, 23, 22, 21, 20, 19, 18, 17, 16, 15, 14, 13, 12, 11, 10, 9, 8, 7, 6, 5, 4, 3, 2, 1, 0] (by kernel_rfl) ?_
          by_cases hb18 : (decide (n8 = n13)) = true
          · have h := ite_t hb18 h
            refine j_setb 48 (by kernel_rfl) hb18 ?_
            refine j_run tt_ok [32, 33, 34, 35, 36, 37, 38, 39, 40, 41, 42] [42, 41, 40, 39, 38, 37, 36, 35, 34, 33, 32, 31, 30, 29, 28, 27, 26, 25, 24, 23, 22, 21, 20, 19, 18, 17, 16, 15, 14, 13, 12, 11, 10, 9, 8, 7, 6, 5, 4, 3, 2, 1, 0] (by kernel_rfl) ?_
            by_cases hb19 : (decide (n9 = n14)) = true
            · have h := ite_t hb19 h
              refine j_setb 59 (by kernel_rfl) hb19 ?_
              refine j_run tt_ok [43, 44, 45, 46, 47, 48, 49, 50] [50, 49, 48, 47, 46, 45, 44, 43, 42, 41, 40, 39, 38, 37, 36, 35, 34, 33, 32, 31, 30, 29, 28, 27, 26, 25, 24, 23, 22, 21, 20, 19, 18, 17, 16, 15, 14, 13, 12, 11, 10, 9, 8, 7, 6, 5, 4, 3, 2, 1, 0] (by kernel_rfl) ?_
              obtain ⟨v22, hc23, h⟩ := bind_some' h
              refine .heavy 51 _ _ rfl (by kernel_rfl) rfl (by kernel_rfl) (aop_call (first := []) (caps := []) (xs := [(.slc (n10.map AV.tree) n10.length false), (.slc (n15.map AV.tree) n15.length false), (.fn (.func 11) [] [])]) (args' := [(.slc (n10.map AV.tree) n10.length false), (.slc (n15.map AV.tree) n15.length false), (.fn (.func 11) [] [])]) (sm := []) (r := []) rfl (by kernel_rfl) Try.func32 rfl rfl ((IH k0 (by omega)).2 n10 n15 _ hc23) (by kernel_rfl) (VW.refl _) (permTo [] (by kernel_rfl))) ?_ ?_
              · rintro _ _ ⟨_, ⟨rfl, rfl⟩, rfl⟩ l hl
                cases hl
              rintro _ _ ⟨_, ⟨rfl, rfl⟩, rfl⟩
              refine j_run tt_ok [52, 53] [53, 52, 51, 50, 49, 48, 47, 46, 45, 44, 43, 42, 41, 40, 39, 38, 37, 36, 35, 34, 33, 32, 31, 30, 29, 28, 27, 26, 25, 24, 23, 22, 21, 20, 19, 18, 17, 16, 15, 14, 13, 12, 11, 10, 9, 8, 7, 6, 5, 4, 3, 2, 1, 0] (by kernel_rfl) ?_
              refine .done (by kernel_rfl) ?_
              refine aw_normal [(4, (.b v22))] (s' := []) (by kernel_rfl) rfl ?_
              refine aw_ret ?_
              obtain rfl := Option.some.inj h
              exact ⟨(.b v22), (.b v22), _, (res_tmps (by kernel_rfl)), (View.refl _), ⟨_, perm_sel _ [], List.take_sublist 0 _⟩, rfl, rfl⟩
            · have h := ite_f hb19 h
              refine j_setb 59 (by kernel_rfl) (nott hb19) ?_
              refine j_run tt_ok [43, 44, 45, 46, 47, 48, 49, 50, 51, 52, 53] [53, 52, 51, 50, 49, 48, 47, 46, 45, 44, 43, 42, 41, 40, 39, 38, 37, 36, 35, 34, 33, 32, 31, 30, 29, 28, 27, 26, 25, 24, 23, 22, 21, 20, 19, 18, 17, 16, 15, 14, 13, 12, 11, 10, 9, 8, 7, 6, 5, 4, 3, 2, 1, 0] (by kernel_rfl) ?_
              refine .done (by kernel_rfl) ?_
              refine aw_normal [(4, (.b false))] (s' := []) (by kernel_rfl) rfl ?_
              refine aw_ret ?_
              obtain rfl := Option.some.inj h
              exact ⟨(.b false), (.b false), _, (res_tmps (by kernel_rfl)), (View.refl _), ⟨_, perm_sel _ [], List.take_sublist 0 _⟩, rfl, rfl⟩
          · have h := ite_f hb18 h
            refine j_setb 48 (by kernel_rfl) (nott hb18) ?_
            refine j_run tt_ok [32, 33, 34, 35, 36, 37, 38, 39, 40, 41, 42, 43, 44, 45, 46, 47, 48, 49, 50, 51, 52, 53] [53, 52, 51, 50, 49, 48, 47, 46, 45, 44, 43, 42, 41, 40, 39, 38, 37, 36, 35, 34, 33, 32, 31, 30, 29, 28, 27, 26, 25, 24, 23, 22, 21, 20, 19, 18, 17, 16, 15, 14, 13, 12, 11, 10, 9, 8, 7, 6, 5, 4, 3, 2, 1, 0] (by kernel_rfl) ?_
            refine .done (by kernel_rfl) ?_
            refine aw_normal [(4, (.b false))] (s' := []) (by kernel_rfl) rfl ?_
            refine aw_ret ?_
            obtain rfl := Option.some.inj h
            exact ⟨(.b false), (.b false), _, (res_tmps (by kernel_rfl)), (View.refl _), ⟨_, perm_sel _ [], List.take_sublist 0 _⟩, rfl, rfl⟩
        · have h := ite_f hb17 h
          refine j_setb 37 (by kernel_rfl) (nott hb17) ?_
          refine j_run tt_ok [21, 22, 23, 24, 25, 26, 27, 28, 29, 30, 31, 32, 33, 34, 35, 36, 37, 38, 39, 40, 41, 42, 43, 44, 45, 46, 47, 48, 49, 50, 51, 52, 53] [53, 52, 51, 50, 49, 48, 47, 46, 45, 44, 43, 42, 41, 40, 39, 38, 37, 36, 35, 34, 33, 32, 31, 30, 29, 28, 27, 26, 25, 24, 23, 22, 21, 20, 19, 18, 17, 16, 15, 14, 13, 12, 11, 10, 9, 8, 7, 6, 5, 4, 3, 2, 1, 0] (by kernel_rfl) ?_
          refine .done (by kernel_rfl) ?_
          refine aw_normal [(4, (.b false))] (s' := []) (by kernel_rfl) rfl ?_
          refine aw_ret ?_
          obtain rfl := Option.some.inj h
          exact ⟨(.b false), (.b false), _, (res_tmps (by kernel_rfl)), (View.refl _), ⟨_, perm_sel _ [], List.take_sublist 0 _⟩, rfl, rfl⟩
      · have h := ite_f hb16 h
        refine j_setb 26 (by kernel_rfl) (nott hb16) ?_
        refine j_run tt_ok [10, 11, 12, 13, 14, 15, 16, 17, 18, 19, 20, 21, 22, 23, 24, 25, 26, 27, 28, 29, 30, 31, 32, 33, 34, 35, 36, 37, 38, 39, 40, 41, 42, 43, 44, 45, 46, 47, 48, 49, 50, 51, 52, 53] [53, 52, 51, 50, 49, 48, 47, 46, 45, 44, 43, 42, 41, 40, 39, 38, 37, 36, 35, 34, 33, 32, 31, 30, 29, 28, 27, 26, 25, 24, 23, 22, 21, 20, 19, 18, 17, 16, 15, 14, 13, 12, 11, 10, 9, 8, 7, 6, 5, 4, 3, 2, 1, 0] (by kernel_rfl) ?_
        refine .done (by kernel_rfl) ?_
        refine aw_normal [(4, (.b false))] (s' := []) (by kernel_rfl) rfl ?_
        refine aw_ret ?_
        obtain rfl := Option.some.inj h
        exact ⟨(.b false), (.b false), _, (res_tmps (by kernel_rfl)), (View.refl _), ⟨_, perm_sel _ [], List.take_sublist 0 _⟩, rfl, rfl⟩
theorem slices_EqualFunc_step (K : Nat) (IH : ∀ j, j < K → arena_Same_S j ∧ slices_EqualFunc_S j) : slices_EqualFunc_S K := by
  intro p0 p1 r h
  cases K with
  | zero => cases h
  | succ k0 =>
  refine acalls_enter Try.func32 rfl rfl ?_
  refine aw_seq ?_
  refine aw_normal [(0, (.slc (p0.map AV.tree) p0.length false)), (1, (.slc (p1.map AV.tree) p1.length false)), (2, (.fn (.func 11) [] []))] (s' := []) (by kernel_rfl) rfl ?_
  refine aw_reg ?_
  refine at_run tt_ok 1 [(0, (.slc (p0.map AV.tree) p0.length false)), (1, (.slc (p1.map AV.tree) p1.length false)), (2, (.fn (.func 11) [] []))] rfl (by kernel_rfl) ?_
  refine at_end rfl ?_
  refine aw_seq ?_
  refine aw_seq ?_
  refine aw_reg ?_
  refine at_run tt_ok 5 [(0, (.slc (p0.map AV.tree) p0.length false)), (1, (.slc (p1.map AV.tree) p1.length false)), (2, (.fn (.func 11) [] [])), (14, (.b ((!decide ((((p0.length : Nat) : Int)) = (((p1.length : Nat) : Int)))))))] rfl (by kernel_rfl) ?_
  refine at_end rfl ?_
  refine aw_cond ((!decide ((((p0.length : Nat) : Int)) = (((p1.length : Nat) : Int))))) rfl (fun hb1 => ?_) (fun hb1 => ?_)
  · have h := ite_t hb1 h
    refine aw_seq ?_
    refine aw_reg ?_
    refine at_run tt_ok 1 [(6, (.b false))] rfl (by kernel_rfl) ?_
    refine at_end rfl ?_
    refine aw_ret ?_
    obtain rfl := Option.some.inj h
    exact ⟨(.b false), (.b false), _, (res_tmps (by kernel_rfl)), (View.refl _), ⟨_, perm_sel _ [], List.take_sublist 0 _⟩, rfl, rfl⟩
  · have h := ite_f (by rw [hb1]; simp) h
    refine aw_skip ?_
    refine aw_seq ?_
    refine aw_seq ?_
    refine aw_reg ?_
    refine at_run tt_ok 3 [(1, (.slc (p1.map AV.tree) p1.length false)), (2, (.fn (.func 11) [] [])), (15, (.slc (p0.map AV.tree) p0.length false)), (16, (.i (((p0.length : Nat) : Int)))), (17, (.i 0))] rfl (by kernel_rfl) ?_
    refine at_end rfl ?_
    refine aw_block ?_
    refine aw_loop_ind' (X := Int) (fun k' x => k' ≤ k0 ∧ slices_EqualFunc_l0 k' p0 p1 x = some r) (fun x => [(1, (.slc (p1.map AV.tree) p1.length false)), (2, (.fn (.func 11) [] [])), (15, (.slc (p0.map AV.tree) p0.length false)), (16, (.i (((p0.length : Nat) : Int)))), (17, (.i x))]) (fun x => []) (fun x hx => by cases hx.2) ?_ k0 0 ⟨Nat.le_refl _, h⟩ (by kernel_rfl) rfl
    clear h
    rintro k4 w0_1 ⟨hlek4, h⟩
    refine aw_seq ?_
    refine aw_reg ?_
    refine at_run tt_ok 1 [(1, (.slc (p1.map AV.tree) p1.length false)), (2, (.fn (.func 11) [] [])), (15, (.slc (p0.map AV.tree) p0.length false)), (16, (.i (((p0.length : Nat) : Int)))), (17, (.i w0_1)), (18, (.b ((decide (w0_1 < (((p0.length : Nat) : Int)))))))] rfl (by kernel_rfl) ?_
    refine at_end rfl ?_
    refine aw_seq ?_
    refine aw_cond ((decide (w0_1 < (((p0.length : Nat) : Int))))) rfl (fun hb5 => ?_) (fun hb5 => ?_)
    · have h := ite_t hb5 h
      refine aw_skip ?_
      refine aw_seq ?_
      refine aw_block ?_
      refine aw_seq ?_
      refine aw_reg ?_
      refine at_run tt_ok 1 [(1, (.slc (p1.map AV.tree) p1.length false)), (2, (.fn (.func 11) [] [])), (15, (.slc (p0.map AV.tree) p0.length false)), (16, (.i (((p0.length : Nat) : Int)))), (17, (.i w0_1)), (19, (.i w0_1))] rfl (by kernel_rfl) ?_
      obtain ⟨v6, hv6, h⟩ := bind_some' h
      refine at_one rfl rfl rfl (aop_idx1 (k := .i64) (g := AV.tree) (l := p0) (fu := false) (j := w0_1) (v := v6) tt_ok rfl rfl rfl rfl rfl hv6) ?_
      refine at_run tt_ok 5 [(1, (.slc (p1.map AV.tree) p1.length false)), (2, (.fn (.func 11) [] [])), (7, (.i w0_1)), (8, (.tree v6)), (15, (.slc (p0.map AV.tree) p0.length false)), (16, (.i (((p0.length : Nat) : Int)))), (17, (.i w0_1))] rfl (by kernel_rfl) ?_
      refine at_end rfl ?_
      refine aw_seq ?_
      refine aw_reg ?_
      refine at_run tt_ok 2 [(1, (.slc (p1.map AV.tree) p1.length false)), (2, (.fn (.func 11) [] [])), (8, (.tree v6)), (15, (.slc (p0.map AV.tree) p0.length false)), (16, (.i (((p0.length : Nat) : Int)))), (17, (.i w0_1)), (22, (.slc (p1.map AV.tree) p1.length false)), (23, (.i w0_1))] rfl (by kernel_rfl) ?_
      obtain ⟨v7, hv7, h⟩ := bind_some' h
      refine at_one rfl rfl rfl (aop_idx1 (k := .i64) (g := AV.tree) (l := p1) (fu := false) (j := w0_1) (v := v7) tt_ok rfl rfl rfl rfl rfl hv7) ?_
      refine at_run tt_ok 5 [(1, (.slc (p1.map AV.tree) p1.length false)), (2, (.fn (.func 11) [] [])), (8, (.tree v6)), (9, (.tree v7)), (15, (.slc (p0.map AV.tree) p0.length false)), (16, (.i (((p0.length : Nat) : Int)))), (17, (.i w0_1))] rfl (by kernel_rfl) ?_
      refine at_end rfl ?_
      refine aw_seq ?_
      refine aw_reg ?_
      refine at_run tt_ok 3 [(1, (.slc (p1.map AV.tree) p1.length false)), (2, (.fn (.func 11) [] [])), (15, (.slc (p0.map AV.tree) p0.length false)), (16, (.i (((p0.length : Nat) : Int)))), (17, (.i w0_1)), (26, (.fn (.func 11) [] [])), (27, (.tree v6)), (28, (.tree v7))] rfl (by kernel_rfl) ?_
      obtain ⟨v8, hc9, h⟩ := bind_some' h
      refine at_op rfl rfl rfl (aop_call (first := []) (caps := []) (xs := [(.tree v6), (.tree v7)]) (args' := [(.tree v6), (.tree v7)]) (sm := []) (r := []) rfl (by kernel_rfl) Try.func11 rfl rfl ((IH k4 (by omega)).1 v6 v7 _ hc9) (by kernel_rfl) (VW.refl _) (permTo [] (by kernel_rfl))) ?_
      rintro _ _ ⟨_, ⟨rfl, rfl⟩, rfl⟩
      refine at_run tt_ok 5 [(1, (.slc (p1.map AV.tree) p1.length false)), (2, (.fn (.func 11) [] [])), (15, (.slc (p0.map AV.tree) p0.length false)), (16, (.i (((p0.length : Nat) : Int)))), (17, (.i w0_1)), (30, (.b ((!v8))))] rfl (by kernel_rfl) ?_
      refine at_end rfl ?_
      refine aw_cond ((!v8)) rfl (fun hb10 => ?_) (fun hb10 => ?_)
      · have h := ite_t hb10 h
        refine aw_seq ?_
        refine aw_reg ?_
        refine at_run tt_ok 1 [(6, (.b false))] rfl (by kernel_rfl) ?_
        refine at_end rfl ?_
        refine aw_ret ?_
        obtain rfl := Option.some.inj h
        exact ⟨(.b false), (.b false), _, (res_tmps (by kernel_rfl)), (View.refl _), ⟨_, perm_sel _ [], List.take_sublist 0 _⟩, rfl, rfl⟩
      · have h := ite_f (by rw [hb10]; simp) h
        refine aw_skip ?_
        refine aw_reg ?_
        refine at_run tt_ok 2 [(1, (.slc (p1.map AV.tree) p1.length false)), (2, (.fn (.func 11) [] [])), (15, (.slc (p0.map AV.tree) p0.length false)), (16, (.i (((p0.length : Nat) : Int)))), (17, (.i ((IntKind.i64.wrap (w0_1 + 1)))))] rfl (by kernel_rfl) ?_
        refine at_end rfl ?_
        exact ⟨k4, (IntKind.i64.wrap (w0_1 + 1)), [], [], by omega, ⟨by omega, h⟩, by kernel_rfl, rfl⟩
    · have h := ite_f (by rw [hb5]; simp) h
      refine aw_exit ?_
      refine aw_seq ?_
      refine aw_reg ?_
      refine at_run tt_ok 1 [(6, (.b true))] rfl (by kernel_rfl) ?_
      refine at_end rfl ?_
      refine aw_ret ?_
      obtain rfl := Option.some.inj h
      exact ⟨(.b true), (.b true), _, (res_tmps (by kernel_rfl)), (View.refl _), ⟨_, perm_sel _ [], List.take_sublist 0 _⟩, rfl, rfl⟩
theorem arena_Same_all (K : Nat) : arena_Same_S K ∧ slices_EqualFunc_S K := by
  induction K using Nat.strongRecOn with
  | _ K IH => exact ⟨arena_Same_step K IH, slices_EqualFunc_step K IH⟩
theorem arena_Same_ok (K : Nat) : ∀ (p0 : Tr) (p1 : Tr) (r : Bool), arena_Same K p0 p1 = some r → ACalls Try.prog 11 [(.tree p0), (.tree p1)] [] (fun av s => av = (.b r) ∧ s = []) := (arena_Same_all K).1
theorem slices_EqualFunc_ok (K : Nat) : ∀ (p0 : List Tr) (p1 : List Tr) (r : Bool), slices_EqualFunc K p0 p1 = some r → ACalls Try.prog 32 [(.slc (p0.map AV.tree) p0.length false), (.slc (p1.map AV.tree) p1.length false), (.fn (.func 11) [] [])] [] (fun av s => av = (.b r) ∧ s = []) := (arena_Same_all K).2
def arena_Size_S (K : Nat) : Prop := ∀ (p0 : Tr) (r : Int), arena_Size K p0 = some r → ACalls Try.prog 13 [(.tree p0)] [] (fun av s => av = (.i r) ∧ s = [])
theorem arena_Size_step (K : Nat) (IH : ∀ j, j < K → arena_Size_S j) : arena_Size_S K := by
  intro p0 r h
  cases K with
  | zero => cases h
  | succ k0 =>
  refine acalls_enter Try.func13 rfl rfl ?_
  refine aw_seq ?_
  refine aw_normal [(0, (.tree p0))] (s' := []) (by kernel_rfl) rfl ?_
  refine aw_reg ?_
  refine at_run tt_ok 1 [(0, (.tree p0))] rfl (by kernel_rfl) ?_
  refine at_end rfl ?_
  refine aw_seq ?_
  refine aw_seq ?_
  refine aw_reg ?_
  refine at_run tt_ok 1 [(0, (.tree p0)), (6, (.tree p0))] rfl (by kernel_rfl) ?_
  cases p0 with
  | nil =>
    refine at_run tt_ok 2 [(0, (.tree (.nil))), (7, (.b true))] rfl (by kernel_rfl) ?_
    refine at_end rfl ?_
    refine aw_cond true rfl (fun _ => ?_) (fun h => by cases h)
    refine aw_seq ?_
    refine aw_reg ?_
    refine at_run tt_ok 1 [(2, (.i 0))] rfl (by kernel_rfl) ?_
    refine at_end rfl ?_
    refine aw_ret ?_
    obtain rfl := Option.some.inj h
    exact ⟨(.i 0), (.i 0), _, (res_tmps (by kernel_rfl)), (View.refl _), ⟨_, perm_sel _ [], List.take_sublist 0 _⟩, rfl, rfl⟩
  | node n1 n2 n3 n4 n5 =>
    refine at_run tt_ok 2 [(0, (.tree ((.node n1 n2 n3 n4 n5)))), (7, (.b false))] rfl (by kernel_rfl) ?_
    refine at_end rfl ?_
    refine aw_cond false rfl (fun h => by cases h) (fun _ => ?_)
    refine aw_skip ?_
    refine aw_seq ?_
    refine aw_reg ?_
    refine at_run tt_ok 1 [(0, (.tree ((.node n1 n2 n3 n4 n5)))), (3, (.i 1))] rfl (by kernel_rfl) ?_
    refine at_end rfl ?_
    refine aw_seq ?_
    refine aw_seq ?_
    refine aw_reg ?_
    refine at_run tt_ok 6 [(3, (.i 1)), (11, (.slc (n5.map AV.tree) n5.length false)), (12, (.i (((n5.length : Nat) : Int)))), (13, (.i 0))] rfl (by kernel_rfl) ?_
    refine at_end rfl ?_
    refine aw_block ?_
    refine aw_loop_ind' (X := Int × Int) (fun k' x => k' ≤ k0 ∧ arena_Size_l0 k' n5 x.1 x.2 = some r) (fun x => [(3, (.i x.1)), (11, (.slc (n5.map AV.tree) n5.length false)), (12, (.i (((n5.length : Nat) : Int)))), (13, (.i x.2))]) (fun x => []) (fun x hx => by cases hx.2) ?_ k0 (1, 0) ⟨Nat.le_refl _, h⟩ (by kernel_rfl) rfl
    clear h
    rintro k9 ⟨w0_1, w0_2⟩ ⟨hlek9, h⟩
    refine aw_seq ?_
    refine aw_reg ?_
    refine at_run tt_ok 1 [(3, (.i w0_1)), (11, (.slc (n5.map AV.tree) n5.length false)), (12, (.i (((n5.length : Nat) : Int)))), (13, (.i w0_2)), (14, (.b ((decide (w0_2 < (((n5.length : Nat) : Int)))))))] rfl (by kernel_rfl) ?_
    refine at_end rfl ?_
    refine aw_seq ?_
    refine aw_cond ((decide (w0_2 < (((n5.length : Nat) : Int))))) rfl (fun hb10 => ?_) (fun hb10 => ?_)
    · have h := ite_t hb10 h
      refine aw_skip ?_
      refine aw_seq ?_
      refine aw_block ?_
      refine aw_seq ?_
      refine aw_reg ?_
      obtain ⟨v11, hv11, h⟩ := bind_some' h
      refine at_one rfl rfl rfl (aop_idx1 (k := .i64) (g := AV.tree) (l := n5) (fu := false) (j := w0_2) (v := v11) tt_ok rfl rfl rfl rfl rfl hv11) ?_
      refine at_run tt_ok 3 [(3, (.i w0_1)), (5, (.tree v11)), (11, (.slc (n5.map AV.tree) n5.length false)), (12, (.i (((n5.length : Nat) : Int)))), (13, (.i w0_2))] rfl (by kernel_rfl) ?_
      refine at_end rfl ?_
      refine aw_reg ?_
      refine at_run tt_ok 2 [(11, (.slc (n5.map AV.tree) n5.length false)), (12, (.i (((n5.length : Nat) : Int)))), (13, (.i w0_2)), (17, (.i w0_1)), (18, (.tree v11))] rfl (by kernel_rfl) ?_
      obtain ⟨v12, hc13, h⟩ := bind_some' h
      refine at_op rfl rfl rfl (aop_call (first := []) (caps := []) (xs := [(.tree v11)]) (args' := [(.tree v11)]) (sm := []) (r := []) rfl (by kernel_rfl) Try.func13 rfl rfl ((IH k9 (by omega)) v11 _ hc13) (by kernel_rfl) (VW.refl _) (permTo [] (by kernel_rfl))) ?_
      rintro _ _ ⟨_, ⟨rfl, rfl⟩, rfl⟩
      refine at_run tt_ok 5 [(3, (.i ((IntKind.i64.wrap (w0_1 + v12))))), (11, (.slc (n5.map AV.tree) n5.length false)), (12, (.i (((n5.length : Nat) : Int)))), (13, (.i w0_2))] rfl (by kernel_rfl) ?_
      refine at_end rfl ?_
      refine aw_reg ?_
      refine at_run tt_ok 2 [(3, (.i ((IntKind.i64.wrap (w0_1 + v12))))), (11, (.slc (n5.map AV.tree) n5.length false)), (12, (.i (((n5.length : Nat) : Int)))), (13, (.i ((IntKind.i64.wrap (w0_2 + 1)))))] rfl (by kernel_rfl) ?_
      refine at_end rfl ?_
      exact ⟨k9, ((IntKind.i64.wrap (w0_1 + v12)), (IntKind.i64.wrap (w0_2 + 1))), [], [], by omega, ⟨by omega, h⟩, by kernel_rfl, rfl⟩
    · have h := ite_f (by rw [hb10]; simp) h
      refine aw_exit ?_
      refine aw_seq ?_
      refine aw_reg ?_
      refine at_run tt_ok 2 [(2, (.i w0_1))] rfl (by kernel_rfl) ?_
      refine at_end rfl ?_
      refine aw_ret ?_
      obtain rfl := Option.some.inj h
      exact ⟨(.i w0_1), (.i w0_1), _, (res_tmps (by kernel_rfl)), (View.refl _), ⟨_, perm_sel _ [], List.take_sublist 0 _⟩, rfl, rfl⟩
theorem arena_Size_all (K : Nat) : arena_Size_S K := by
  induction K using Nat.strongRecOn with
  | _ K IH => exact arena_Size_step K IH
theorem arena_Size_ok (K : Nat) : ∀ (p0 : Tr) (r : Int), arena_Size K p0 = some r → ACalls Try.prog 13 [(.tree p0)] [] (fun av s => av = (.i r) ∧ s = []) := (arena_Size_all K)
theorem law04_few_ok (K : Nat) : ∀ (p0 : List S_Cell) (r : (List S_Cell)), law04_few K p0 = some r → ACalls Try.prog 10 [(.agg [(.slc (p0.flatMap S_Cell.cs) p0.length false)])] [] (fun av s => av = (.agg [(.slc (r.flatMap S_Cell.cs) r.length false)]) ∧ s = []) := by
  intro p0 r h
  refine acalls_enter Try.func10 rfl rfl ?_
  refine aw_seq ?_
  refine aw_normal [(0, (.agg [(.slc (p0.flatMap S_Cell.cs) p0.length false)]))] (s' := []) (by kernel_rfl) rfl ?_
  refine aw_reg ?_
  refine at_run tt_ok 1 [(1, (.ptr [(.slc (p0.flatMap S_Cell.cs) p0.length false)]))] rfl (by kernel_rfl) ?_
  refine at_op rfl rfl rfl (aop_alloc (zs := [(.slice none 0 0)]) tt_ok rfl rfl rfl) ?_
  rintro _ _ ⟨o1, rfl, rfl⟩
  refine at_end rfl ?_
  refine aw_seq ?_
  refine aw_normal [(1, (.ptr [(.slc (p0.flatMap S_Cell.cs) p0.length false)])), (2, (.ref o1 0))] (s' := [(o1, .row 24 1 [(.lit (.slice none 0 0))] 0)]) (by kernel_rfl) rfl ?_
  refine aw_reg ?_
  refine at_op rfl rfl rfl (aop_alloc (zs := [(.slice none 0 0)]) tt_ok rfl rfl rfl) ?_
  rintro _ _ ⟨o2, rfl, rfl⟩
  refine at_end rfl ?_
  refine aw_seq ?_
  refine aw_seq ?_
  refine aw_normal [(1, (.ptr [(.slc (p0.flatMap S_Cell.cs) p0.length false)])), (2, (.ref o1 0)), (3, (.ref o2 0))] (s' := [(o2, .row 24 1 [(.lit (.slice none 0 0))] 0), (o1, .row 24 1 [(.lit (.slice none 0 0))] 0)]) (by kernel_rfl) rfl ?_
  refine aw_reg ?_
  refine at_run tt_ok 1 [(1, (.ptr [(.slc (p0.flatMap S_Cell.cs) p0.length false)])), (2, (.ref o1 0)), (3, (.ref o2 0)), (4, (.i 0))] rfl (by kernel_rfl) ?_
  refine at_end rfl ?_
  refine aw_block ?_
  refine aw_adoptCell (j := 0) 0 58 5 rfl rfl (fun o5 => ?_)
  refine aw_normal [(1, (.ptr [(.slc (p0.flatMap S_Cell.cs) p0.length false)])), (2, (.ref o1 0)), (3, (.ref o2 0)), (4, (.i 0))] (s' := [(o5, .row 58 5 ((([] : List S_Cell)).flatMap S_Cell.cs) 0), (o2, .row 24 1 [(.row o5 (([] : List S_Cell)).length)] 0), (o1, .row 24 1 [(.lit (.slice none 0 0))] 0)]) (by kernel_rfl) rfl ?_
  refine aw_loop_ind' (X := Int × (List S_Cell) × Nat) (fun k' x => k' ≤ K ∧ law04_few_l0 k' p0 x.1 x.2.1 = some r) (fun x => [(1, (.ptr [(.slc (p0.flatMap S_Cell.cs) p0.length false)])), (2, (.ref o1 0)), (3, (.ref o2 0)), (4, (.i x.1))]) (fun x => [(x.2.2, .row 58 5 (x.2.1.flatMap S_Cell.cs) 0), (o2, .row 24 1 [(.row x.2.2 x.2.1.length)] 0), (o1, .row 24 1 [(.lit (.slice none 0 0))] 0)]) (fun x hx => by cases hx.2) ?_ K (0, ([] : List S_Cell), o5) ⟨Nat.le_refl _, h⟩ (by kernel_rfl) rfl
  clear h
  rintro k9 ⟨w0_2, w0_3, i0_1⟩ ⟨hlek9, h⟩
  refine aw_seq ?_
  refine aw_seq ?_
  refine aw_reg ?_
  refine at_run tt_ok 6 [(1, (.ptr [(.slc (p0.flatMap S_Cell.cs) p0.length false)])), (2, (.ref o1 0)), (3, (.ref o2 0)), (4, (.i w0_2)), (11, (.b ((decide (w0_2 < (((p0.length : Nat) : Int)))))))] rfl (by kernel_rfl) ?_
  by_cases hb10 : (decide (w0_2 < (((p0.length : Nat) : Int)))) = true
  · have h := ite_t hb10 h
    refine at_setb 11 rfl hb10 ?_
    refine at_run tt_ok 9 [(1, (.ptr [(.slc (p0.flatMap S_Cell.cs) p0.length false)])), (2, (.ref o1 0)), (3, (.ref o2 0)), (4, (.i w0_2)), (12, (.i w0_2)), (13, (.b ((decide (w0_2 < 60))))), (14, (.b ((decide (w0_2 < 60)))))] rfl (by kernel_rfl) ?_
    refine at_end rfl ?_
    refine aw_cond ((decide (w0_2 < 60))) rfl (fun hb11 => ?_) (fun hb11 => ?_)
    · have h := ite_t hb11 h
      refine aw_skip ?_
      refine aw_seq ?_
      refine aw_block ?_
      refine aw_seq ?_
      refine aw_reg ?_
      refine at_run tt_ok 3 [(1, (.ptr [(.slc (p0.flatMap S_Cell.cs) p0.length false)])), (2, (.ref o1 0)), (3, (.ref o2 0)), (4, (.i w0_2)), (12, (.i w0_2)), (13, (.b ((decide (w0_2 < 60))))), (18, (.slc (p0.flatMap S_Cell.cs) p0.length false)), (19, (.i w0_2))] rfl (by kernel_rfl) ?_
      obtain ⟨v12, hv12, h⟩ := bind_some' h
      refine at_one rfl rfl rfl (aop_idxN (k := .i64) (g := S_Cell.cs) (l := p0) (fu := false) (j := w0_2) (v := v12) tt_ok S_Cell.len rfl rfl rfl rfl rfl hv12) ?_
      refine at_run tt_ok 5 [(1, (.ptr [(.slc (p0.flatMap S_Cell.cs) p0.length false)])), (2, (.ref o1 0)), (3, (.ref o2 0)), (4, (.i w0_2)), (12, (.i w0_2)), (13, (.b ((decide (w0_2 < 60))))), (21, (.agg [(.i v12.fKind), (.i v12.fN), (.s v12.fName), (.s v12.fMark), (.slc (v12.fKids.map AV.i) v12.fKids.length false)]))] rfl (by kernel_rfl) ?_
      refine at_op rfl rfl rfl (aop_alloc (zs := [(.int .i64 0), (.int .i64 0), (.string ⟨#[]⟩), (.string ⟨#[]⟩), (.slice none 0 0)]) tt_ok rfl rfl rfl) ?_
      rintro _ _ ⟨o13, rfl, rfl⟩
      refine at_one rfl rfl rfl (aop_storeRef (id := o13) (off := 0) (j := 0) (ds := [(.i v12.fKind), (.i v12.fN), (.s v12.fName), (.s v12.fMark), (.slc (v12.fKids.map AV.i) v12.fKids.length false)]) tt_ok rfl rfl rfl rfl rfl) ?_
      refine at_end rfl ?_
      refine aw_seq ?_
      refine aw_normal [(1, (.ptr [(.slc (p0.flatMap S_Cell.cs) p0.length false)])), (2, (.ref o1 0)), (3, (.ref o2 0)), (4, (.i w0_2)), (5, (.ref o13 0)), (12, (.i w0_2)), (13, (.b ((decide (w0_2 < 60)))))] (s' := [(o13, .row 58 5 [(.i v12.fKind), (.i v12.fN), (.s v12.fName), (.s v12.fMark), (.slc (v12.fKids.map AV.i) v12.fKids.length false)] 0), (i0_1, .row 58 5 (w0_3.flatMap S_Cell.cs) 0), (o2, .row 24 1 [(.row i0_1 w0_3.length)] 0), (o1, .row 24 1 [(.lit (.slice none 0 0))] 0)]) (by kernel_rfl) rfl ?_
      refine aw_draw mixed (by kernel_rfl) ?_
      refine j_run tt_ok [0, 2, 7, 9] [9, 7, 2, 0] (by kernel_rfl) ?_
      refine j_light1 1 (o13, .row 58 5 [(.i v12.fKind), (.i v12.fN), (.s v12.fName), (.s v12.fMark), (.slc (v12.fKids.map AV.i) v12.fKids.length false)] 0) rfl (by kernel_rfl) rfl (by kernel_rfl) (fun s hq => (aop_loadM (av := (.s v12.fName)) (off := 2) tt_ok hq rfl (by kernel_rfl) (by kernel_rfl))) (j := 0) rfl ?_
      refine j_light1 3 (o13, .row 58 5 [(.i v12.fKind), (.i v12.fN), (.s v12.fName), (.s v12.fMark), (.slc (v12.fKids.map AV.i) v12.fKids.length false)] 0) rfl (by kernel_rfl) rfl (by kernel_rfl) (fun s hq => (aop_loadM (av := (.s v12.fName)) (off := 2) tt_ok hq rfl (by kernel_rfl) (by kernel_rfl))) (j := 0) rfl ?_
      refine j_run tt_ok [4, 5] [5, 4, 3, 1, 9, 7, 2, 0] (by kernel_rfl) ?_
      obtain ⟨v14, hv14, h⟩ := bind_some' h
      refine j_light0 6 rfl (by kernel_rfl) rfl (by kernel_rfl) (fun s => (aop_subS (l := v12.fName) (a1 := 0) (b1 := (if 20 < (((v12.fName.length : Nat) : Int)) then 20 else (((v12.fName.length : Nat) : Int)))) (v := v14) tt_ok hv14 rfl rfl (by kernel_rfl) (by kernel_rfl) (by kernel_rfl))) ?_
      refine j_light1 8 (o13, .row 58 5 [(.i v12.fKind), (.i v12.fN), (.s v12.fName), (.s v12.fMark), (.slc (v12.fKids.map AV.i) v12.fKids.length false)] 0) rfl (by kernel_rfl) rfl (by kernel_rfl) (fun s hq => (aop_loadM (av := (.s v12.fMark)) (off := 3) tt_ok hq rfl (by kernel_rfl) (by kernel_rfl))) (j := 0) rfl ?_
      refine j_light1 10 (o13, .row 58 5 [(.i v12.fKind), (.i v12.fN), (.s v12.fName), (.s v12.fMark), (.slc (v12.fKids.map AV.i) v12.fKids.length false)] 0) rfl (by kernel_rfl) rfl (by kernel_rfl) (fun s hq => (aop_loadM (av := (.s v12.fMark)) (off := 3) tt_ok hq rfl (by kernel_rfl) (by kernel_rfl))) (j := 0) rfl ?_
      refine j_run tt_ok [11, 12] [12, 11, 10, 8, 6, 5, 4, 3, 1, 9, 7, 2, 0] (by kernel_rfl) ?_
      obtain ⟨v15, hv15, h⟩ := bind_some' h
      refine j_light0 13 rfl (by kernel_rfl) rfl (by kernel_rfl) (fun s => (aop_subS (l := v12.fMark) (a1 := 0) (b1 := (if 20 < (((v12.fMark.length : Nat) : Int)) then 20 else (((v12.fMark.length : Nat) : Int)))) (v := v15) tt_ok hv15 rfl rfl (by kernel_rfl) (by kernel_rfl) (by kernel_rfl))) ?_
      refine j_run tt_ok [14] [14, 13, 12, 11, 10, 8, 6, 5, 4, 3, 1, 9, 7, 2, 0] (by kernel_rfl) ?_
      refine .heavy 15 _ _ rfl (by kernel_rfl) rfl (by kernel_rfl) (aop_storeRef (id := o13) (off := 2) (j := 0) (ds := [(.s v14)]) tt_ok rfl (by kernel_rfl) rfl (by kernel_rfl) rfl) ?_ ?_
      · rintro _ _ ⟨rfl, rfl⟩ l hl
        rcases List.mem_cons.1 hl with rfl | hl
        · exact .inl (by kernel_rfl)
        · rcases List.mem_cons.1 hl with rfl | hl
          · exact .inl (by kernel_rfl)
          · rcases List.mem_cons.1 hl with rfl | hl
            · exact .inl (by kernel_rfl)
            · rcases List.mem_cons.1 hl with rfl | hl
              · exact .inl (by kernel_rfl)
              · cases hl
      rintro _ _ ⟨rfl, rfl⟩
      refine j_run tt_ok [16] [16, 15, 14, 13, 12, 11, 10, 8, 6, 5, 4, 3, 1, 9, 7, 2, 0] (by kernel_rfl) ?_
      refine .heavy 17 _ _ rfl (by kernel_rfl) rfl (by kernel_rfl) (aop_storeRef (id := o13) (off := 3) (j := 0) (ds := [(.s v15)]) tt_ok rfl (by kernel_rfl) rfl (by kernel_rfl) rfl) ?_ ?_
      · rintro _ _ ⟨rfl, rfl⟩ l hl
        rcases List.mem_cons.1 hl with rfl | hl
        · exact .inl (by kernel_rfl)
        · rcases List.mem_cons.1 hl with rfl | hl
          · exact .inl (by kernel_rfl)
          · rcases List.mem_cons.1 hl with rfl | hl
            · exact .inl (by kernel_rfl)
            · rcases List.mem_cons.1 hl with rfl | hl
              · exact .inl (by kernel_rfl)
              · cases hl
      rintro _ _ ⟨rfl, rfl⟩
      refine .done (by kernel_rfl) ?_
      refine aw_seq ?_
      refine aw_normal [(1, (.ptr [(.slc (p0.flatMap S_Cell.cs) p0.length false)])), (2, (.ref o1 0)), (3, (.ref o2 0)), (4, (.i w0_2)), (5, (.ref o13 0)), (12, (.i w0_2)), (13, (.b ((decide (w0_2 < 60)))))] (s' := [(o13, .row 58 5 [(.i v12.fKind), (.i v12.fN), (.s v14), (.s v15), (.slc (v12.fKids.map AV.i) v12.fKids.length false)] 0), (i0_1, .row 58 5 (w0_3.flatMap S_Cell.cs) 0), (o2, .row 24 1 [(.row i0_1 w0_3.length)] 0), (o1, .row 24 1 [(.lit (.slice none 0 0))] 0)]) (by kernel_rfl) rfl ?_
      refine aw_reg ?_
      refine at_run tt_ok 2 [(1, (.ptr [(.slc (p0.flatMap S_Cell.cs) p0.length false)])), (2, (.ref o1 0)), (3, (.ref o2 0)), (4, (.i w0_2)), (5, (.ref o13 0)), (12, (.i w0_2)), (13, (.b ((decide (w0_2 < 60))))), (38, (.slc ((([] : List Int)).map AV.i) (([] : List Int)).length true)), (39, (.ref o13 4))] rfl (by kernel_rfl) ?_
      refine at_one rfl rfl rfl (aop_loadRef (j := 0) (off := 4) (av := (.slc (v12.fKids.map AV.i) v12.fKids.length false)) tt_ok rfl rfl rfl rfl) ?_
      refine at_run tt_ok 4 [(1, (.ptr [(.slc (p0.flatMap S_Cell.cs) p0.length false)])), (2, (.ref o1 0)), (3, (.ref o2 0)), (4, (.i w0_2)), (5, (.ref o13 0)), (12, (.i w0_2)), (13, (.b ((decide (w0_2 < 60))))), (38, (.slc ((([] : List Int)).map AV.i) (([] : List Int)).length true)), (40, (.slc (v12.fKids.map AV.i) v12.fKids.length false)), (41, (.ref o13 4))] rfl (by kernel_rfl) ?_
      refine at_one rfl rfl rfl (aop_loadRef (j := 0) (off := 4) (av := (.slc (v12.fKids.map AV.i) v12.fKids.length false)) tt_ok rfl rfl rfl rfl) ?_
      refine at_run tt_ok 7 [(1, (.ptr [(.slc (p0.flatMap S_Cell.cs) p0.length false)])), (2, (.ref o1 0)), (3, (.ref o2 0)), (4, (.i w0_2)), (5, (.ref o13 0)), (12, (.i w0_2)), (13, (.b ((decide (w0_2 < 60))))), (38, (.slc ((([] : List Int)).map AV.i) (([] : List Int)).length true)), (40, (.slc (v12.fKids.map AV.i) v12.fKids.length false)), (44, (.i ((if 12 < (((v12.fKids.length : Nat) : Int)) then 12 else (((v12.fKids.length : Nat) : Int))))))] rfl (by kernel_rfl) ?_
      obtain ⟨v16, hv16, h⟩ := bind_some' h
      refine at_one rfl rfl rfl (aop_sub1 (g := AV.i) (l := v12.fKids) (fu := false) (a1 := 0) (b1 := (if 12 < (((v12.fKids.length : Nat) : Int)) then 12 else (((v12.fKids.length : Nat) : Int)))) (v := v16) tt_ok hv16 rfl rfl rfl rfl rfl rfl) ?_
      obtain ⟨v17, hv17, h⟩ := bind_some' h
      refine at_one rfl rfl rfl (aop_appC1 (g := AV.i) (l := ([] : List Int)) (d := v16) (v := v17) (f := false) tt_ok hv17 rfl rfl rfl rfl rfl rfl rfl rfl rfl) ?_
      refine at_run tt_ok 10 [(1, (.ptr [(.slc (p0.flatMap S_Cell.cs) p0.length false)])), (2, (.ref o1 0)), (3, (.ref o2 0)), (4, (.i w0_2)), (5, (.ref o13 0)), (12, (.i w0_2)), (13, (.b ((decide (w0_2 < 60))))), (46, (.slc (v17.map AV.i) v17.length false)), (47, (.ref o13 4))] rfl (by kernel_rfl) ?_
      refine at_one rfl rfl rfl (aop_storeRef (id := o13) (off := 4) (j := 0) (ds := [(.slc (v17.map AV.i) v17.length false)]) tt_ok rfl rfl rfl rfl rfl) ?_
      refine at_end rfl ?_
      refine aw_normal [(1, (.ptr [(.slc (p0.flatMap S_Cell.cs) p0.length false)])), (2, (.ref o1 0)), (3, (.ref o2 0)), (4, (.i w0_2)), (5, (.ref o13 0)), (12, (.i w0_2)), (13, (.b ((decide (w0_2 < 60)))))] (s' := [(o13, .row 58 5 [(.i v12.fKind), (.i v12.fN), (.s v14), (.s v15), (.slc (v17.map AV.i) v17.length false)] 0), (i0_1, .row 58 5 (w0_3.flatMap S_Cell.cs) 0), (o2, .row 24 1 [(.row i0_1 w0_3.length)] 0), (o1, .row 24 1 [(.lit (.slice none 0 0))] 0)]) (by kernel_rfl) rfl ?_
      refine aw_reg ?_
      refine at_run tt_ok 1 [(1, (.ptr [(.slc (p0.flatMap S_Cell.cs) p0.length false)])), (2, (.ref o1 0)), (3, (.ref o2 0)), (4, (.i w0_2)), (5, (.ref o13 0)), (12, (.i w0_2)), (13, (.b ((decide (w0_2 < 60))))), (48, (.ref o2 0))] rfl (by kernel_rfl) ?_
      refine at_one rfl rfl rfl (aop_loadRef (j := 2) (off := 0) (av := (.row i0_1 w0_3.length)) tt_ok rfl rfl rfl rfl) ?_
      refine at_one rfl rfl rfl (aop_loadRef (j := 0) (off := 0) (av := (.agg [(.i v12.fKind), (.i v12.fN), (.s v14), (.s v15), (.slc (v17.map AV.i) v17.length false)])) tt_ok rfl rfl rfl rfl) ?_
      refine at_run tt_ok 4 [(1, (.ptr [(.slc (p0.flatMap S_Cell.cs) p0.length false)])), (2, (.ref o1 0)), (3, (.ref o2 0)), (4, (.i w0_2)), (12, (.i w0_2)), (13, (.b ((decide (w0_2 < 60))))), (49, (.row i0_1 w0_3.length)), (51, (.slc ((([(⟨v12.fKind, v12.fN, v14, v15, v17⟩ : S_Cell)] : List S_Cell)).flatMap S_Cell.cs) (([(⟨v12.fKind, v12.fN, v14, v15, v17⟩ : S_Cell)] : List S_Cell)).length true))] rfl (by kernel_rfl) ?_
      obtain ⟨v18, hv18, h⟩ := bind_some' h
      refine at_op rfl rfl rfl (aop_appN (g := S_Cell.cs) (l := w0_3) (d := ([(⟨v12.fKind, v12.fN, v14, v15, v17⟩ : S_Cell)] : List S_Cell)) (v := v18) (f := true) (id := i0_1) (j := 1) tt_ok S_Cell.len hv18 rfl rfl rfl rfl rfl rfl rfl rfl rfl rfl) ?_
      rintro _ _ ⟨o19, rfl, rfl⟩
      refine at_run tt_ok 6 [(1, (.ptr [(.slc (p0.flatMap S_Cell.cs) p0.length false)])), (2, (.ref o1 0)), (3, (.ref o2 0)), (4, (.i w0_2)), (12, (.i w0_2)), (13, (.b ((decide (w0_2 < 60))))), (52, (.row o19 v18.length)), (53, (.ref o2 0))] rfl (by kernel_rfl) ?_
      refine at_one rfl rfl rfl (aop_storeRef (id := o2) (off := 0) (j := 2) (ds := [(.row o19 v18.length)]) tt_ok rfl rfl rfl rfl rfl) ?_
      refine at_end rfl ?_
      refine aw_normal [(1, (.ptr [(.slc (p0.flatMap S_Cell.cs) p0.length false)])), (2, (.ref o1 0)), (3, (.ref o2 0)), (4, (.i w0_2)), (12, (.i w0_2)), (13, (.b ((decide (w0_2 < 60)))))] (s' := [(o19, .row 58 5 (v18.flatMap S_Cell.cs) 0), (o13, .row 58 5 [(.i v12.fKind), (.i v12.fN), (.s v14), (.s v15), (.slc (v17.map AV.i) v17.length false)] 0), (o2, .row 24 1 [(.row o19 v18.length)] 0), (o1, .row 24 1 [(.lit (.slice none 0 0))] 0)]) (by kernel_rfl) rfl ?_
      refine aw_reg ?_
      refine at_run tt_ok 3 [(1, (.ptr [(.slc (p0.flatMap S_Cell.cs) p0.length false)])), (2, (.ref o1 0)), (3, (.ref o2 0)), (4, (.i ((IntKind.i64.wrap (w0_2 + 1))))), (12, (.i w0_2)), (13, (.b ((decide (w0_2 < 60)))))] rfl (by kernel_rfl) ?_
      refine at_end rfl ?_
      exact ⟨k9, ((IntKind.i64.wrap (w0_2 + 1)), v18, o19), [0, 1, 1], [(o13, .row 58 5 [(.i v12.fKind), (.i v12.fN), (.s v14), (.s v15), (.slc (v17.map AV.i) v17.length false)] 0)], by omega, ⟨by omega, h⟩, by kernel_rfl, rfl⟩
    · have h := ite_f (by rw [hb11]; simp) h
      refine aw_exit ?_
      refine aw_seq ?_
      refine aw_reg ?_
      refine at_one rfl rfl rfl (aop_loadRef (j := 1) (off := 0) (av := (.agg [(.row i0_1 w0_3.length)])) tt_ok rfl rfl rfl rfl) ?_
      refine at_one rfl rfl rfl (aop_storeRef (id := o1) (off := 0) (j := 2) (ds := [(.row i0_1 w0_3.length)]) tt_ok rfl rfl rfl rfl rfl) ?_
      refine at_end rfl ?_
      refine aw_normal [(2, (.ref o1 0))] (s' := [(i0_1, .row 58 5 (w0_3.flatMap S_Cell.cs) 0), (o2, .row 24 1 [(.row i0_1 w0_3.length)] 0), (o1, .row 24 1 [(.row i0_1 w0_3.length)] 0)]) (by kernel_rfl) rfl ?_
      refine aw_shift (Shift.frz (j := 0) rfl) ?_
      refine aw_shift (Shift.cell (j := 1) 0 rfl rfl (View.row (j := 0) rfl (fun h => by rw [List.eq_nil_of_length_eq_zero h]; rfl))) ?_
      refine aw_shift (Shift.cell (j := 2) 0 rfl rfl (View.row (j := 0) rfl (fun h => by rw [List.eq_nil_of_length_eq_zero h]; rfl))) ?_
      refine aw_ret ?_
      obtain rfl := Option.some.inj h
      exact ⟨(.agg [(.slc (w0_3.flatMap S_Cell.cs) w0_3.length false)]), (.agg [(.slc (w0_3.flatMap S_Cell.cs) w0_3.length false)]), _, (res_one rfl (res1_cell (j := 2) (id := o1) (off := 0) (av := (.agg [(.slc (w0_3.flatMap S_Cell.cs) w0_3.length false)])) tt_ok (by kernel_rfl) rfl (by kernel_rfl))), (View.refl _), ⟨_, perm_sel _ [], List.take_sublist 0 _⟩, rfl, rfl⟩
  · have h := ite_f hb10 h
    refine at_setb 11 rfl (nott hb10) ?_
    refine at_run tt_ok 9 [(1, (.ptr [(.slc (p0.flatMap S_Cell.cs) p0.length false)])), (2, (.ref o1 0)), (3, (.ref o2 0)), (4, (.i w0_2)), (14, (.b false))] rfl (by kernel_rfl) ?_
    refine at_end rfl ?_
    refine aw_cond false rfl (fun h => by cases h) (fun _ => ?_)
    refine aw_exit ?_
    refine aw_seq ?_
    refine aw_reg ?_
    refine at_one rfl rfl rfl (aop_loadRef (j := 1) (off := 0) (av := (.agg [(.row i0_1 w0_3.length)])) tt_ok rfl rfl rfl rfl) ?_
    refine at_one rfl rfl rfl (aop_storeRef (id := o1) (off := 0) (j := 2) (ds := [(.row i0_1 w0_3.length)]) tt_ok rfl rfl rfl rfl rfl) ?_
    refine at_end rfl ?_
    refine aw_normal [(2, (.ref o1 0))] (s' := [(i0_1, .row 58 5 (w0_3.flatMap S_Cell.cs) 0), (o2, .row 24 1 [(.row i0_1 w0_3.length)] 0), (o1, .row 24 1 [(.row i0_1 w0_3.length)] 0)]) (by kernel_rfl) rfl ?_
    refine aw_shift (Shift.frz (j := 0) rfl) ?_
    refine aw_shift (Shift.cell (j := 1) 0 rfl rfl (View.row (j := 0) rfl (fun h => by rw [List.eq_nil_of_length_eq_zero h]; rfl))) ?_
    refine aw_shift (Shift.cell (j := 2) 0 rfl rfl (View.row (j := 0) rfl (fun h => by rw [List.eq_nil_of_length_eq_zero h]; rfl))) ?_
    refine aw_ret ?_
    obtain rfl := Option.some.inj h
    exact ⟨(.agg [(.slc (w0_3.flatMap S_Cell.cs) w0_3.length false)]), (.agg [(.slc (w0_3.flatMap S_Cell.cs) w0_3.length false)]), _, (res_one rfl (res1_cell (j := 2) (id := o1) (off := 0) (av := (.agg [(.slc (w0_3.flatMap S_Cell.cs) w0_3.length false)])) tt_ok (by kernel_rfl) rfl (by kernel_rfl))), (View.refl _), ⟨_, perm_sel _ [], List.take_sublist 0 _⟩, rfl, rfl⟩
def arena_Pack_1_S (K : Nat) : Prop := ∀ (o0 : Nat) (o1 : Nat) (o2 : Nat) (p0 : Tr) (p1 : List S_Cell) (r : Int × (List S_Cell)), arena_Pack_1 K p0 p1 = some r → ACalls Try.prog 35 [(.tree p0), (.ref o0 0), (.ref o1 0)] [(o0, .row 30 1 [(.fn (.func 35) [] [(.ref o0 0), (.ref o1 0)])] 0), (o1, .row 24 1 [(.row o2 p1.length)] 0), (o2, .row 58 5 (p1.flatMap S_Cell.cs) 0)] (fun av s => ∃ x0, av = (.i r.1) ∧ s = [(o0, .row 30 1 [(.fn (.func 35) [] [(.ref o0 0), (.ref o1 0)])] 0), (o1, .row 24 1 [(.row x0 r.2.length)] 0), (x0, .row 58 5 (r.2.flatMap S_Cell.cs) 0)])
theorem arena_Pack_1_step (K : Nat) (IH : ∀ j, j < K → arena_Pack_1_S j) : arena_Pack_1_S K := by
  intro o0 o1 o2 p0 p1 r h
  cases K with
  | zero => cases h
  | succ k0 =>
  refine acalls_enter Try.func35 rfl rfl ?_
  refine aw_seq ?_
  refine aw_normal [(0, (.tree p0)), (1, (.ref o0 0)), (2, (.ref o1 0))] (s' := [(o0, .row 30 1 [(.fn (.func 35) [] [(.ref o0 0), (.ref o1 0)])] 0), (o1, .row 24 1 [(.row o2 p1.length)] 0), (o2, .row 58 5 (p1.flatMap S_Cell.cs) 0)]) (by kernel_rfl) rfl ?_
  refine aw_reg ?_
  refine at_run tt_ok 1 [(0, (.tree p0)), (1, (.ref o0 0)), (2, (.ref o1 0))] rfl (by kernel_rfl) ?_
  refine at_end rfl ?_
  refine aw_seq ?_
  refine aw_draw mixed (by kernel_rfl) ?_
  refine j_run tt_ok [0, 4, 8, 12] [12, 8, 4, 0] (by kernel_rfl) ?_
  cases p0 with
  | nil =>
    cases h
  | node n3 n4 n5 n6 n7 =>
    refine j_run tt_ok [1, 2, 3, 5, 6, 7, 9, 10, 11, 13, 14, 15, 16] [16, 15, 14, 13, 11, 10, 9, 7, 6, 5, 3, 2, 1, 12, 8, 4, 0] (by kernel_rfl) ?_
    refine .heavy 17 _ _ rfl (by kernel_rfl) rfl (by kernel_rfl) (aop_alloc (zs := [(.int .i64 0), (.int .i64 0), (.string ⟨#[]⟩), (.string ⟨#[]⟩), (.slice none 0 0)]) tt_ok rfl rfl rfl) ?_ ?_
    · rintro _ _ ⟨o9, rfl, rfl⟩ l hl
      cases hl
    rintro _ _ ⟨o9, rfl, rfl⟩
    refine .heavy 18 _ _ rfl (by kernel_rfl) rfl (by kernel_rfl) (aop_storeRef (id := o9) (off := 0) (j := 0) (ds := [(.i n3), (.i n4), (.s n5), (.s n6), (.lit (.slice none 0 0))]) tt_ok rfl (by kernel_rfl) rfl (by kernel_rfl) rfl) ?_ ?_
    · rintro _ _ ⟨rfl, rfl⟩ l hl
      cases hl
    rintro _ _ ⟨rfl, rfl⟩
    refine .done (by kernel_rfl) ?_
    refine aw_seq ?_
    refine aw_seq ?_
    refine aw_normal [(0, (.tree ((.node n3 n4 n5 n6 n7)))), (1, (.ref o0 0)), (2, (.ref o1 0)), (5, (.ref o9 0))] (s' := [(o9, .row 58 5 [(.i n3), (.i n4), (.s n5), (.s n6), (.lit (.slice none 0 0))] 0), (o0, .row 30 1 [(.fn (.func 35) [] [(.ref o0 0), (.ref o1 0)])] 0), (o1, .row 24 1 [(.row o2 p1.length)] 0), (o2, .row 58 5 (p1.flatMap S_Cell.cs) 0)]) (by kernel_rfl) rfl ?_
    refine aw_reg ?_
    refine at_run tt_ok 6 [(1, (.ref o0 0)), (2, (.ref o1 0)), (5, (.ref o9 0)), (28, (.slc (n7.map AV.tree) n7.length false)), (29, (.i (((n7.length : Nat) : Int)))), (30, (.i 0))] rfl (by kernel_rfl) ?_
    refine at_end rfl ?_
    refine aw_block ?_
    refine aw_adoptCell (j := 0) 4 3 1 rfl rfl (fun o12 => ?_)
    refine aw_normal [(1, (.ref o0 0)), (2, (.ref o1 0)), (5, (.ref o9 0)), (28, (.slc (n7.map AV.tree) n7.length false)), (29, (.i (((n7.length : Nat) : Int)))), (30, (.i 0))] (s' := [(o12, .row 3 1 ((([] : List Int)).map AV.i) 0), (o9, .row 58 5 [(.i n3), (.i n4), (.s n5), (.s n6), (.row o12 (([] : List Int)).length)] 0), (o0, .row 30 1 [(.fn (.func 35) [] [(.ref o0 0), (.ref o1 0)])] 0), (o1, .row 24 1 [(.row o2 p1.length)] 0), (o2, .row 58 5 (p1.flatMap S_Cell.cs) 0)]) (by kernel_rfl) rfl ?_
    refine aw_loop_ind' (X := Int × (List Int) × (List S_Cell) × Nat × Nat) (fun k' x => k' ≤ k0 ∧ arena_Pack_1_l0 k' n3 n4 n5 n6 n7 x.1 x.2.1 x.2.2.1 = some r) (fun x => [(1, (.ref o0 0)), (2, (.ref o1 0)), (5, (.ref o9 0)), (28, (.slc (n7.map AV.tree) n7.length false)), (29, (.i (((n7.length : Nat) : Int)))), (30, (.i x.1))]) (fun x => [(x.2.2.2.1, .row 3 1 (x.2.1.map AV.i) 0), (o9, .row 58 5 [(.i n3), (.i n4), (.s n5), (.s n6), (.row x.2.2.2.1 x.2.1.length)] 0), (o0, .row 30 1 [(.fn (.func 35) [] [(.ref o0 0), (.ref o1 0)])] 0), (o1, .row 24 1 [(.row x.2.2.2.2 x.2.2.1.length)] 0), (x.2.2.2.2, .row 58 5 (x.2.2.1.flatMap S_Cell.cs) 0)]) (fun x hx => by cases hx.2) ?_ k0 (0, ([] : List Int), p1, o12, o2) ⟨Nat.le_refl _, h⟩ (by kernel_rfl) rfl
    clear h
    rintro k18 ⟨w0_3, w0_4, w0_5, i0_1, i0_2⟩ ⟨hlek18, h⟩
    refine aw_seq ?_
    refine aw_reg ?_
    refine at_run tt_ok 1 [(1, (.ref o0 0)), (2, (.ref o1 0)), (5, (.ref o9 0)), (28, (.slc (n7.map AV.tree) n7.length false)), (29, (.i (((n7.length : Nat) : Int)))), (30, (.i w0_3)), (31, (.b ((decide (w0_3 < (((n7.length : Nat) : Int)))))))] rfl (by kernel_rfl) ?_
    refine at_end rfl ?_
    refine aw_seq ?_
    refine aw_cond ((decide (w0_3 < (((n7.length : Nat) : Int))))) rfl (fun hb19 => ?_) (fun hb19 => ?_)
    · have h := ite_t hb19 h
      refine aw_skip ?_
      refine aw_seq ?_
      refine aw_block ?_
      refine aw_seq ?_
      refine aw_reg ?_
      obtain ⟨v20, hv20, h⟩ := bind_some' h
      refine at_one rfl rfl rfl (aop_idx1 (k := .i64) (g := AV.tree) (l := n7) (fu := false) (j := w0_3) (v := v20) tt_ok rfl rfl rfl rfl rfl hv20) ?_
      refine at_run tt_ok 3 [(1, (.ref o0 0)), (2, (.ref o1 0)), (5, (.ref o9 0)), (7, (.tree v20)), (28, (.slc (n7.map AV.tree) n7.length false)), (29, (.i (((n7.length : Nat) : Int)))), (30, (.i w0_3))] rfl (by kernel_rfl) ?_
      refine at_end rfl ?_
      refine aw_draw mixed (by kernel_rfl) ?_
      refine j_run tt_ok [0, 3] [3, 0] (by kernel_rfl) ?_
      refine j_light1 1 (o9, .row 58 5 [(.i n3), (.i n4), (.s n5), (.s n6), (.row i0_1 w0_4.length)] 0) rfl (by kernel_rfl) rfl (by kernel_rfl) (fun s hq => (aop_loadM (av := (.row i0_1 w0_4.length)) (off := 4) tt_ok hq rfl (by kernel_rfl) (by kernel_rfl))) (j := 1) rfl ?_
      refine j_light1 2 (o0, .row 30 1 [(.fn (.func 35) [] [(.ref o0 0), (.ref o1 0)])] 0) rfl (by kernel_rfl) rfl (by kernel_rfl) (fun s hq => (aop_loadM (av := (.fn (.func 35) [] [(.ref o0 0), (.ref o1 0)])) (off := 0) tt_ok hq rfl (by kernel_rfl) (by kernel_rfl))) (j := 2) rfl ?_
      obtain ⟨⟨v25, v26⟩, hc27, h⟩ := bind_some' h
      refine .heavy 4 _ _ rfl (by kernel_rfl) rfl (by kernel_rfl) (aop_call (first := []) (caps := [(.ref o0 0), (.ref o1 0)]) (xs := [(.tree v20), (.ref o0 0), (.ref o1 0)]) (args' := [(.tree v20), (.ref o0 0), (.ref o1 0)]) (sm := [(o0, .row 30 1 [(.fn (.func 35) [] [(.ref o0 0), (.ref o1 0)])] 0), (o1, .row 24 1 [(.row i0_2 w0_5.length)] 0), (i0_2, .row 58 5 (w0_5.flatMap S_Cell.cs) 0)]) (r := [(i0_1, .row 3 1 (w0_4.map AV.i) 0), (o9, .row 58 5 [(.i n3), (.i n4), (.s n5), (.s n6), (.row i0_1 w0_4.length)] 0)]) rfl (by kernel_rfl) Try.func35 rfl rfl ((IH k18 (by omega)) o0 o1 i0_2 v20 w0_5 _ hc27) (by kernel_rfl) (VW.refl _) (permTo [2, 2, 2] (by kernel_rfl))) ?_ ?_
      · rintro _ _ ⟨_, ⟨o28, rfl, rfl⟩, rfl⟩ l hl
        rcases List.mem_cons.1 hl with rfl | hl
        · exact .inl (by kernel_rfl)
        · rcases List.mem_cons.1 hl with rfl | hl
          · exact .inr (fun p hp => by rw [List.mem_singleton.1 hp]; exact List.mem_of_getElem? (i := 4) rfl)
          · cases hl
      rintro _ _ ⟨_, ⟨o28, rfl, rfl⟩, rfl⟩
      refine j_run tt_ok [5] [5, 4, 2, 1, 3, 0] (by kernel_rfl) ?_
      obtain ⟨v31, hv31, h⟩ := bind_some' h
      refine .heavy 6 _ _ rfl (by kernel_rfl) rfl (by kernel_rfl) (aop_app1 (g := AV.i) (l := w0_4) (d := ([v25] : List Int)) (v := v31) (f := true) (id := i0_1) (j := 3) tt_ok hv31 rfl rfl rfl rfl rfl rfl rfl (by kernel_rfl) (by kernel_rfl) rfl) ?_ ?_
      · rintro _ _ ⟨o32, rfl, rfl⟩ l hl
        rcases List.mem_cons.1 hl with rfl | hl
        · exact .inr (fun p hp => by rw [List.mem_singleton.1 hp]; exact List.mem_of_getElem? (i := 1) rfl)
        · rcases List.mem_cons.1 hl with rfl | hl
          · exact .inl (by kernel_rfl)
          · cases hl
      rintro _ _ ⟨o32, rfl, rfl⟩
      refine j_run tt_ok [7] [7, 6, 5, 4, 2, 1, 3, 0] (by kernel_rfl) ?_
      refine .heavy 8 _ _ rfl (by kernel_rfl) rfl (by kernel_rfl) (aop_storeRef (id := o9) (off := 4) (j := 4) (ds := [(.row o32 v31.length)]) tt_ok rfl (by kernel_rfl) rfl (by kernel_rfl) rfl) ?_ ?_
      · rintro _ _ ⟨rfl, rfl⟩ l hl
        rcases List.mem_cons.1 hl with rfl | hl
        · exact .inl (by kernel_rfl)
        · rcases List.mem_cons.1 hl with rfl | hl
          · exact .inl (by kernel_rfl)
          · cases hl
      rintro _ _ ⟨rfl, rfl⟩
      refine .done (by kernel_rfl) ?_
      refine aw_normal [(1, (.ref o0 0)), (2, (.ref o1 0)), (5, (.ref o9 0)), (28, (.slc (n7.map AV.tree) n7.length false)), (29, (.i (((n7.length : Nat) : Int)))), (30, (.i w0_3))] (s' := [(o32, .row 3 1 (v31.map AV.i) 0), (o0, .row 30 1 [(.fn (.func 35) [] [(.ref o0 0), (.ref o1 0)])] 0), (o1, .row 24 1 [(.row o28 v26.length)] 0), (o28, .row 58 5 (v26.flatMap S_Cell.cs) 0), (o9, .row 58 5 [(.i n3), (.i n4), (.s n5), (.s n6), (.row o32 v31.length)] 0)]) (by kernel_rfl) rfl ?_
      refine aw_reg ?_
      refine at_run tt_ok 2 [(1, (.ref o0 0)), (2, (.ref o1 0)), (5, (.ref o9 0)), (28, (.slc (n7.map AV.tree) n7.length false)), (29, (.i (((n7.length : Nat) : Int)))), (30, (.i ((IntKind.i64.wrap (w0_3 + 1)))))] rfl (by kernel_rfl) ?_
      refine at_end rfl ?_
      exact ⟨k18, ((IntKind.i64.wrap (w0_3 + 1)), v31, v26, o32, o28), [0, 3, 0, 0, 0], [], by omega, ⟨by omega, h⟩, by kernel_rfl, rfl⟩
    · have h := ite_f (by rw [hb19]; simp) h
      refine aw_exit ?_
      refine aw_seq ?_
      refine aw_shift (Shift.frz (j := 0) rfl) ?_
      refine aw_shift (Shift.cell (j := 1) 4 rfl rfl (View.row (j := 0) rfl (fun h => by rw [List.eq_nil_of_length_eq_zero h]; rfl))) ?_
      refine aw_reg ?_
      refine at_run tt_ok 1 [(2, (.ref o1 0)), (5, (.ref o9 0)), (43, (.ref o1 0))] rfl (by kernel_rfl) ?_
      refine at_one rfl rfl rfl (aop_loadRef (j := 3) (off := 0) (av := (.row i0_2 w0_5.length)) tt_ok rfl rfl rfl rfl) ?_
      refine at_one rfl rfl rfl (aop_loadRef (j := 1) (off := 0) (av := (.agg [(.i n3), (.i n4), (.s n5), (.s n6), (.slc (w0_4.map AV.i) w0_4.length false)])) tt_ok rfl rfl rfl rfl) ?_
      refine at_run tt_ok 4 [(2, (.ref o1 0)), (44, (.row i0_2 w0_5.length)), (46, (.slc ((([(⟨n3, n4, n5, n6, w0_4⟩ : S_Cell)] : List S_Cell)).flatMap S_Cell.cs) (([(⟨n3, n4, n5, n6, w0_4⟩ : S_Cell)] : List S_Cell)).length true))] rfl (by kernel_rfl) ?_
      obtain ⟨v83, hv83, h⟩ := bind_some' h
      refine at_op rfl rfl rfl (aop_appN (g := S_Cell.cs) (l := w0_5) (d := ([(⟨n3, n4, n5, n6, w0_4⟩ : S_Cell)] : List S_Cell)) (v := v83) (f := true) (id := i0_2) (j := 4) tt_ok S_Cell.len hv83 rfl rfl rfl rfl rfl rfl rfl rfl rfl rfl) ?_
      rintro _ _ ⟨o84, rfl, rfl⟩
      refine at_run tt_ok 6 [(2, (.ref o1 0)), (47, (.row o84 v83.length)), (48, (.ref o1 0))] rfl (by kernel_rfl) ?_
      refine at_one rfl rfl rfl (aop_storeRef (id := o1) (off := 0) (j := 4) (ds := [(.row o84 v83.length)]) tt_ok rfl rfl rfl rfl rfl) ?_
      refine at_end rfl ?_
      refine aw_seq ?_
      refine aw_normal [(2, (.ref o1 0))] (s' := [(o84, .row 58 5 (v83.flatMap S_Cell.cs) 0), (i0_1, .row 3 1 (w0_4.map AV.i) (w0_4.map AV.i).length), (o9, .row 58 5 [(.i n3), (.i n4), (.s n5), (.s n6), (.slc (w0_4.map AV.i) w0_4.length false)] 0), (o0, .row 30 1 [(.fn (.func 35) [] [(.ref o0 0), (.ref o1 0)])] 0), (o1, .row 24 1 [(.row o84 v83.length)] 0)]) (by kernel_rfl) rfl ?_
      refine aw_reg ?_
      refine at_run tt_ok 1 [(49, (.ref o1 0))] rfl (by kernel_rfl) ?_
      refine at_one rfl rfl rfl (aop_loadRef (j := 4) (off := 0) (av := (.row o84 v83.length)) tt_ok rfl rfl rfl rfl) ?_
      refine at_run tt_ok 5 [(4, (.i ((IntKind.i64.wrap ((((v83.length : Nat) : Int)) - 1)))))] rfl (by kernel_rfl) ?_
      refine at_end rfl ?_
      refine aw_ret ?_
      obtain rfl := Option.some.inj h
      exact ⟨(.i ((IntKind.i64.wrap ((((v83.length : Nat) : Int)) - 1)))), (.i ((IntKind.i64.wrap ((((v83.length : Nat) : Int)) - 1)))), _, (res_tmps (by kernel_rfl)), (View.refl _), ⟨_, perm_sel _ [3, 3, 0], List.take_sublist 3 _⟩, o84, rfl, rfl⟩
theorem arena_Pack_1_all (K : Nat) : arena_Pack_1_S K := by
  induction K using Nat.strongRecOn with
  | _ K IH => exact arena_Pack_1_step K IH
theorem arena_Pack_1_ok (K : Nat) : ∀ (o0 : Nat) (o1 : Nat) (o2 : Nat) (p0 : Tr) (p1 : List S_Cell) (r : Int × (List S_Cell)), arena_Pack_1 K p0 p1 = some r → ACalls Try.prog 35 [(.tree p0), (.ref o0 0), (.ref o1 0)] [(o0, .row 30 1 [(.fn (.func 35) [] [(.ref o0 0), (.ref o1 0)])] 0), (o1, .row 24 1 [(.row o2 p1.length)] 0), (o2, .row 58 5 (p1.flatMap S_Cell.cs) 0)] (fun av s => ∃ x0, av = (.i r.1) ∧ s = [(o0, .row 30 1 [(.fn (.func 35) [] [(.ref o0 0), (.ref o1 0)])] 0), (o1, .row 24 1 [(.row x0 r.2.length)] 0), (x0, .row 58 5 (r.2.flatMap S_Cell.cs) 0)]) := (arena_Pack_1_all K)
def arena_whole_S (K : Nat) : Prop := ∀ (p0 : Tr) (r : Bool), arena_whole K p0 = some r → ACalls Try.prog 34 [(.tree p0)] [] (fun av s => av = (.b r) ∧ s = [])
def arena_whole_1_S (K : Nat) : Prop := ∀ (p0 : Tr) (r : Bool), arena_whole_1 K p0 = some r → ACalls Try.prog 44 [(.tree p0)] [] (fun av s => av = (.b r) ∧ s = [])
def slices_ContainsFunc_S (K : Nat) : Prop := ∀ (p0 : List Tr) (r : Bool), slices_ContainsFunc K p0 = some r → ACalls Try.prog 43 [(.slc (p0.map AV.tree) p0.length false), (.fn (.func 44) [] [])] [] (fun av s => av = (.b r) ∧ s = [])
def slices_IndexFunc_S (K : Nat) : Prop := ∀ (p0 : List Tr) (r : Int), slices_IndexFunc K p0 = some r → ACalls Try.prog 46 [(.slc (p0.map AV.tree) p0.length false), (.fn (.func 44) [] [])] [] (fun av s => av = (.i r) ∧ s = [])
theorem arena_whole_step (K : Nat) (IH : ∀ j, j < K → arena_whole_S j ∧ arena_whole_1_S j ∧ slices_ContainsFunc_S j ∧ slices_IndexFunc_S j) : arena_whole_S K := by
  intro p0 r h
  cases K with
  | zero => cases h
  | succ k0 =>
  refine acalls_enter Try.func34 rfl rfl ?_
  refine aw_seq ?_
  refine aw_normal [(0, (.tree p0))] (s' := []) (by kernel_rfl) rfl ?_
  refine aw_reg ?_
  refine at_run tt_ok 1 [(0, (.tree p0))] rfl (by kernel_rfl) ?_
  refine at_end rfl ?_
  refine aw_seq ?_
  refine aw_reg ?_
  refine at_run tt_ok 1 [(0, (.tree p0)), (3, (.tree p0))] rfl (by kernel_rfl) ?_
  cases p0 with
  | nil =>
    refine at_run tt_ok 11 [(2, (.b false))] rfl (by kernel_rfl) ?_
    refine at_end rfl ?_
    refine aw_ret ?_
    obtain rfl := Option.some.inj h
    exact ⟨(.b false), (.b false), _, (res_tmps (by kernel_rfl)), (View.refl _), ⟨_, perm_sel _ [], List.take_sublist 0 _⟩, rfl, rfl⟩
  | node n1 n2 n3 n4 n5 =>
    refine at_run tt_ok 7 [(5, (.b true)), (9, (.slc (n5.map AV.tree) n5.length false))] rfl (by kernel_rfl) ?_
    obtain ⟨v6, hc7, h⟩ := bind_some' h
    refine at_op rfl rfl rfl (aop_call (first := []) (caps := []) (xs := [(.slc (n5.map AV.tree) n5.length false), (.fn (.func 44) [] [])]) (args' := [(.slc (n5.map AV.tree) n5.length false), (.fn (.func 44) [] [])]) (sm := []) (r := []) rfl (by kernel_rfl) Try.func43 rfl rfl ((IH k0 (by omega)).2.2.1 n5 _ hc7) (by kernel_rfl) (VW.refl _) (permTo [] (by kernel_rfl))) ?_
    rintro _ _ ⟨_, ⟨rfl, rfl⟩, rfl⟩
    refine at_run tt_ok 11 [(2, (.b ((!v6))))] rfl (by kernel_rfl) ?_
    refine at_end rfl ?_
    refine aw_ret ?_
    obtain rfl := Option.some.inj h
    exact ⟨(.b ((!v6))), (.b ((!v6))), _, (res_tmps (by kernel_rfl)), (View.refl _), ⟨_, perm_sel _ [], List.take_sublist 0 _⟩, rfl, rfl⟩
theorem arena_whole_1_step (K : Nat) (IH : ∀ j, j < K → arena_whole_S j ∧ arena_whole_1_S j ∧ slices_ContainsFunc_S j ∧ slices_IndexFunc_S j) : arena_whole_1_S K := by
  intro p0 r h
  cases K with
  | zero => cases h
  | succ k0 =>
  refine acalls_enter Try.func44 rfl rfl ?_
  refine aw_seq ?_
  refine aw_normal [(0, (.tree p0))] (s' := []) (by kernel_rfl) rfl ?_
  refine aw_reg ?_
  refine at_run tt_ok 1 [(0, (.tree p0))] rfl (by kernel_rfl) ?_
  refine at_end rfl ?_
  refine aw_seq ?_
  refine aw_reg ?_
  refine at_run tt_ok 1 [(3, (.tree p0))] rfl (by kernel_rfl) ?_
  obtain ⟨v1, hc2, h⟩ := bind_some' h
  refine at_op rfl rfl rfl (aop_call (first := []) (caps := []) (xs := [(.tree p0)]) (args' := [(.tree p0)]) (sm := []) (r := []) rfl (by kernel_rfl) Try.func34 rfl rfl ((IH k0 (by omega)).1 p0 _ hc2) (by kernel_rfl) (VW.refl _) (permTo [] (by kernel_rfl))) ?_
  rintro _ _ ⟨_, ⟨rfl, rfl⟩, rfl⟩
  refine at_run tt_ok 4 [(2, (.b ((!v1))))] rfl (by kernel_rfl) ?_
  refine at_end rfl ?_
  refine aw_ret ?_
  obtain rfl := Option.some.inj h
  exact ⟨(.b ((!v1))), (.b ((!v1))), _, (res_tmps (by kernel_rfl)), (View.refl _), ⟨_, perm_sel _ [], List.take_sublist 0 _⟩, rfl, rfl⟩
theorem slices_ContainsFunc_step (K : Nat) (IH : ∀ j, j < K → arena_whole_S j ∧ arena_whole_1_S j ∧ slices_ContainsFunc_S j ∧ slices_IndexFunc_S j) : slices_ContainsFunc_S K := by
  intro p0 r h
  cases K with
  | zero => cases h
  | succ k0 =>
  refine acalls_enter Try.func43 rfl rfl ?_
  refine aw_seq ?_
  refine aw_normal [(0, (.slc (p0.map AV.tree) p0.length false)), (1, (.fn (.func 44) [] []))] (s' := []) (by kernel_rfl) rfl ?_
  refine aw_reg ?_
  refine at_run tt_ok 1 [(0, (.slc (p0.map AV.tree) p0.length false)), (1, (.fn (.func 44) [] []))] rfl (by kernel_rfl) ?_
  refine at_end rfl ?_
  refine aw_seq ?_
  refine aw_reg ?_
  refine at_run tt_ok 2 [(5, (.slc (p0.map AV.tree) p0.length false)), (6, (.fn (.func 44) [] []))] rfl (by kernel_rfl) ?_
  obtain ⟨v1, hc2, h⟩ := bind_some' h
  refine at_op rfl rfl rfl (aop_call (first := []) (caps := []) (xs := [(.slc (p0.map AV.tree) p0.length false), (.fn (.func 44) [] [])]) (args' := [(.slc (p0.map AV.tree) p0.length false), (.fn (.func 44) [] [])]) (sm := []) (r := []) rfl (by kernel_rfl) Try.func46 rfl rfl ((IH k0 (by omega)).2.2.2 p0 _ hc2) (by kernel_rfl) (VW.refl _) (permTo [] (by kernel_rfl))) ?_
  rintro _ _ ⟨_, ⟨rfl, rfl⟩, rfl⟩
  refine at_run tt_ok 5 [(4, (.b ((decide (0 ≤ v1)))))] rfl (by kernel_rfl) ?_
  refine at_end rfl ?_
  refine aw_ret ?_
  obtain rfl := Option.some.inj h
  exact ⟨(.b ((decide (0 ≤ v1)))), (.b ((decide (0 ≤ v1)))), _, (res_tmps (by kernel_rfl)), (View.refl _), ⟨_, perm_sel _ [], List.take_sublist 0 _⟩, rfl, rfl⟩
theorem slices_IndexFunc_step (K : Nat) (IH : ∀ j, j < K → arena_whole_S j ∧ arena_whole_1_S j ∧ slices_ContainsFunc_S j ∧ slices_IndexFunc_S j) : slices_IndexFunc_S K := by
  intro p0 r h
  cases K with
  | zero => cases h
  | succ k0 =>
  refine acalls_enter Try.func46 rfl rfl ?_
  refine aw_seq ?_
  refine aw_normal [(0, (.slc (p0.map AV.tree) p0.length false)), (1, (.fn (.func 44) [] []))] (s' := []) (by kernel_rfl) rfl ?_
  refine aw_reg ?_
  refine at_run tt_ok 1 [(0, (.slc (p0.map AV.tree) p0.length false)), (1, (.fn (.func 44) [] []))] rfl (by kernel_rfl) ?_
  refine at_end rfl ?_
  refine aw_seq ?_
  refine aw_seq ?_
  refine aw_reg ?_
  refine at_run tt_ok 3 [(0, (.slc (p0.map AV.tree) p0.length false)), (1, (.fn (.func 44) [] [])), (7, (.i (((p0.length : Nat) : Int)))), (8, (.i 0))] rfl (by kernel_rfl) ?_
  refine at_end rfl ?_
  refine aw_block ?_
  refine aw_loop_ind' (X := Int) (fun k' x => k' ≤ k0 ∧ slices_IndexFunc_l0 k' p0 x = some r) (fun x => [(0, (.slc (p0.map AV.tree) p0.length false)), (1, (.fn (.func 44) [] [])), (7, (.i (((p0.length : Nat) : Int)))), (8, (.i x))]) (fun x => []) (fun x hx => by cases hx.2) ?_ k0 0 ⟨Nat.le_refl _, h⟩ (by kernel_rfl) rfl
  clear h
  rintro k3 w0_1 ⟨hlek3, h⟩
  refine aw_seq ?_
  refine aw_reg ?_
  refine at_run tt_ok 1 [(0, (.slc (p0.map AV.tree) p0.length false)), (1, (.fn (.func 44) [] [])), (7, (.i (((p0.length : Nat) : Int)))), (8, (.i w0_1)), (9, (.b ((decide (w0_1 < (((p0.length : Nat) : Int)))))))] rfl (by kernel_rfl) ?_
  refine at_end rfl ?_
  refine aw_seq ?_
  refine aw_cond ((decide (w0_1 < (((p0.length : Nat) : Int))))) rfl (fun hb4 => ?_) (fun hb4 => ?_)
  · have h := ite_t hb4 h
    refine aw_skip ?_
    refine aw_seq ?_
    refine aw_block ?_
    refine aw_seq ?_
    refine aw_reg ?_
    refine at_run tt_ok 2 [(0, (.slc (p0.map AV.tree) p0.length false)), (1, (.fn (.func 44) [] [])), (5, (.i w0_1)), (7, (.i (((p0.length : Nat) : Int)))), (8, (.i w0_1))] rfl (by kernel_rfl) ?_
    refine at_end rfl ?_
    refine aw_seq ?_
    refine aw_reg ?_
    refine at_run tt_ok 3 [(0, (.slc (p0.map AV.tree) p0.length false)), (1, (.fn (.func 44) [] [])), (5, (.i w0_1)), (7, (.i (((p0.length : Nat) : Int)))), (8, (.i w0_1)), (11, (.fn (.func 44) [] [])), (12, (.slc (p0.map AV.tree) p0.length false)), (13, (.i w0_1))] rfl (by kernel_rfl) ?_
    obtain ⟨v5, hv5, h⟩ := bind_some' h
    refine at_one rfl rfl rfl (aop_idx1 (k := .i64) (g := AV.tree) (l := p0) (fu := false) (j := w0_1) (v := v5) tt_ok rfl rfl rfl rfl rfl hv5) ?_
    refine at_run tt_ok 5 [(0, (.slc (p0.map AV.tree) p0.length false)), (1, (.fn (.func 44) [] [])), (5, (.i w0_1)), (7, (.i (((p0.length : Nat) : Int)))), (8, (.i w0_1)), (11, (.fn (.func 44) [] [])), (15, (.tree v5))] rfl (by kernel_rfl) ?_
    obtain ⟨v6, hc7, h⟩ := bind_some' h
    refine at_op rfl rfl rfl (aop_call (first := []) (caps := []) (xs := [(.tree v5)]) (args' := [(.tree v5)]) (sm := []) (r := []) rfl (by kernel_rfl) Try.func44 rfl rfl ((IH k3 (by omega)).2.1 v5 _ hc7) (by kernel_rfl) (VW.refl _) (permTo [] (by kernel_rfl))) ?_
    rintro _ _ ⟨_, ⟨rfl, rfl⟩, rfl⟩
    refine at_end rfl ?_
    refine aw_normal [(0, (.slc (p0.map AV.tree) p0.length false)), (1, (.fn (.func 44) [] [])), (5, (.i w0_1)), (7, (.i (((p0.length : Nat) : Int)))), (8, (.i w0_1)), (16, (.b v6))] (s' := []) (by kernel_rfl) rfl ?_
    refine aw_cond v6 rfl (fun hb8 => ?_) (fun hb8 => ?_)
    · have h := ite_t hb8 h
      refine aw_seq ?_
      refine aw_reg ?_
      refine at_run tt_ok 2 [(4, (.i w0_1))] rfl (by kernel_rfl) ?_
      refine at_end rfl ?_
      refine aw_ret ?_
      obtain rfl := Option.some.inj h
      exact ⟨(.i w0_1), (.i w0_1), _, (res_tmps (by kernel_rfl)), (View.refl _), ⟨_, perm_sel _ [], List.take_sublist 0 _⟩, rfl, rfl⟩
    · have h := ite_f (by rw [hb8]; simp) h
      refine aw_skip ?_
      refine aw_reg ?_
      refine at_run tt_ok 2 [(0, (.slc (p0.map AV.tree) p0.length false)), (1, (.fn (.func 44) [] [])), (7, (.i (((p0.length : Nat) : Int)))), (8, (.i ((IntKind.i64.wrap (w0_1 + 1)))))] rfl (by kernel_rfl) ?_
      refine at_end rfl ?_
      exact ⟨k3, (IntKind.i64.wrap (w0_1 + 1)), [], [], by omega, ⟨by omega, h⟩, by kernel_rfl, rfl⟩
  · have h := ite_f (by rw [hb4]; simp) h
    refine aw_exit ?_
    refine aw_seq ?_
    refine aw_reg ?_
    refine at_run tt_ok 1 [(4, (.i ((-1))))] rfl (by kernel_rfl) ?_
    refine at_end rfl ?_
    refine aw_ret ?_
    obtain rfl := Option.some.inj h
    exact ⟨(.i ((-1))), (.i ((-1))), _, (res_tmps (by kernel_rfl)), (View.refl _), ⟨_, perm_sel _ [], List.take_sublist 0 _⟩, rfl, rfl⟩
theorem arena_whole_all (K : Nat) : arena_whole_S K ∧ arena_whole_1_S K ∧ slices_ContainsFunc_S K ∧ slices_IndexFunc_S K := by
  induction K using Nat.strongRecOn with
  | _ K IH => exact ⟨arena_whole_step K IH, arena_whole_1_step K IH, slices_ContainsFunc_step K IH, slices_IndexFunc_step K IH⟩
theorem arena_whole_ok (K : Nat) : ∀ (p0 : Tr) (r : Bool), arena_whole K p0 = some r → ACalls Try.prog 34 [(.tree p0)] [] (fun av s => av = (.b r) ∧ s = []) := (arena_whole_all K).1
theorem arena_whole_1_ok (K : Nat) : ∀ (p0 : Tr) (r : Bool), arena_whole_1 K p0 = some r → ACalls Try.prog 44 [(.tree p0)] [] (fun av s => av = (.b r) ∧ s = []) := (arena_whole_all K).2.1
theorem slices_ContainsFunc_ok (K : Nat) : ∀ (p0 : List Tr) (r : Bool), slices_ContainsFunc K p0 = some r → ACalls Try.prog 43 [(.slc (p0.map AV.tree) p0.length false), (.fn (.func 44) [] [])] [] (fun av s => av = (.b r) ∧ s = []) := (arena_whole_all K).2.2.1
theorem slices_IndexFunc_ok (K : Nat) : ∀ (p0 : List Tr) (r : Int), slices_IndexFunc K p0 = some r → ACalls Try.prog 46 [(.slc (p0.map AV.tree) p0.length false), (.fn (.func 44) [] [])] [] (fun av s => av = (.i r) ∧ s = []) := (arena_whole_all K).2.2.2
theorem arena_Pack_ok (K : Nat) : ∀ (p0 : Tr) (r : (List S_Cell) × Int), arena_Pack K p0 = some r → ACalls Try.prog 20 [(.tree p0)] [] (fun av s => av = (.tup [(.agg [(.slc (r.1.flatMap S_Cell.cs) r.1.length false)]), (.i r.2)]) ∧ s = []) := by
  intro p0 r h
  refine acalls_enter Try.func20 rfl rfl ?_
  refine aw_seq ?_
  refine aw_normal [(0, (.tree p0))] (s' := []) (by kernel_rfl) rfl ?_
  refine aw_reg ?_
  refine at_op rfl rfl rfl (aop_alloc (zs := [(.slice none 0 0)]) tt_ok rfl rfl rfl) ?_
  rintro _ _ ⟨o1, rfl, rfl⟩
  refine at_run tt_ok 2 [(0, (.tree p0)), (2, (.ref o1 0))] rfl (by kernel_rfl) ?_
  refine at_end rfl ?_
  refine aw_seq ?_
  refine aw_block ?_
  refine aw_seq ?_
  refine aw_reg ?_
  refine at_run tt_ok 1 [(0, (.tree p0)), (2, (.ref o1 0)), (7, (.tree p0))] rfl (by kernel_rfl) ?_
  obtain ⟨v2, hc3, h⟩ := bind_some' h
  refine at_op rfl rfl rfl (aop_call (first := []) (caps := []) (xs := [(.tree p0)]) (args' := [(.tree p0)]) (sm := []) (r := [(o1, .row 24 1 [(.lit (.slice none 0 0))] 0)]) rfl (by kernel_rfl) Try.func34 rfl rfl (arena_whole_ok K p0 _ hc3) (by kernel_rfl) (VW.refl _) (permTo [] (by kernel_rfl))) ?_
  rintro _ _ ⟨_, ⟨rfl, rfl⟩, rfl⟩
  refine at_run tt_ok 4 [(0, (.tree p0)), (2, (.ref o1 0)), (6, (.b ((!v2))))] rfl (by kernel_rfl) ?_
  refine at_end rfl ?_
  refine aw_cond ((!v2)) rfl (fun hb4 => ?_) (fun hb4 => ?_)
  · have h := ite_t hb4 h
    refine aw_seq ?_
    refine aw_reg ?_
    refine at_run tt_ok 1 [(2, (.ref o1 0)), (10, (.agg [(.lit (.slice none 0 0))]))] rfl (by kernel_rfl) ?_
    refine at_one rfl rfl rfl (aop_storeRef (id := o1) (off := 0) (j := 0) (ds := [(.lit (.slice none 0 0))]) tt_ok rfl rfl rfl rfl rfl) ?_
    refine at_run tt_ok 3 [(2, (.ref o1 0)), (3, (.i 1))] rfl (by kernel_rfl) ?_
    refine at_end rfl ?_
    refine aw_ret ?_
    obtain rfl := Option.some.inj h
    exact ⟨(.tup [(.agg [(.lit (.slice none 0 0))]), (.i 1)]), (.tup [(.agg [(.slc ((([] : List S_Cell)).flatMap S_Cell.cs) (([] : List S_Cell)).length false)]), (.i 1)]), _, (res_two rfl (res1_cell (j := 0) (id := o1) (off := 0) (av := (.agg [(.lit (.slice none 0 0))])) tt_ok (by kernel_rfl) rfl (by kernel_rfl)) (res1_tmp (by kernel_rfl))), (View.tup (VW.cons (View.of_weak (Weak.agg (WL.cons (Weak.nil_slc false) WL.nil))) (VW.same VW.nil))), ⟨_, perm_sel _ [], List.take_sublist 0 _⟩, rfl, rfl⟩
  · have h := ite_f (by rw [hb4]; simp) h
    refine aw_seq ?_
    refine aw_reg ?_
    refine at_run tt_ok 1 [(0, (.tree p0)), (2, (.ref o1 0)), (12, (.tree p0))] rfl (by kernel_rfl) ?_
    obtain ⟨v5, hc6, h⟩ := bind_some' h
    refine at_op rfl rfl rfl (aop_call (first := []) (caps := []) (xs := [(.tree p0)]) (args' := [(.tree p0)]) (sm := []) (r := [(o1, .row 24 1 [(.lit (.slice none 0 0))] 0)]) rfl (by kernel_rfl) Try.func13 rfl rfl (arena_Size_ok K p0 _ hc6) (by kernel_rfl) (VW.refl _) (permTo [] (by kernel_rfl))) ?_
    rintro _ _ ⟨_, ⟨rfl, rfl⟩, rfl⟩
    refine at_run tt_ok 4 [(0, (.tree p0)), (2, (.ref o1 0)), (11, (.b ((decide (8192 < v5)))))] rfl (by kernel_rfl) ?_
    refine at_end rfl ?_
    refine aw_cond ((decide (8192 < v5))) rfl (fun hb7 => ?_) (fun hb7 => ?_)
    · have h := ite_t hb7 h
      refine aw_seq ?_
      refine aw_reg ?_
      refine at_run tt_ok 1 [(2, (.ref o1 0)), (15, (.agg [(.lit (.slice none 0 0))]))] rfl (by kernel_rfl) ?_
      refine at_one rfl rfl rfl (aop_storeRef (id := o1) (off := 0) (j := 0) (ds := [(.lit (.slice none 0 0))]) tt_ok rfl rfl rfl rfl rfl) ?_
      refine at_run tt_ok 3 [(2, (.ref o1 0)), (3, (.i 3))] rfl (by kernel_rfl) ?_
      refine at_end rfl ?_
      refine aw_ret ?_
      obtain rfl := Option.some.inj h
      exact ⟨(.tup [(.agg [(.lit (.slice none 0 0))]), (.i 3)]), (.tup [(.agg [(.slc ((([] : List S_Cell)).flatMap S_Cell.cs) (([] : List S_Cell)).length false)]), (.i 3)]), _, (res_two rfl (res1_cell (j := 0) (id := o1) (off := 0) (av := (.agg [(.lit (.slice none 0 0))])) tt_ok (by kernel_rfl) rfl (by kernel_rfl)) (res1_tmp (by kernel_rfl))), (View.tup (VW.cons (View.of_weak (Weak.agg (WL.cons (Weak.nil_slc false) WL.nil))) (VW.same VW.nil))), ⟨_, perm_sel _ [], List.take_sublist 0 _⟩, rfl, rfl⟩
    · have h := ite_f (by rw [hb7]; simp) h
      refine aw_skip ?_
      refine aw_seq ?_
      refine aw_reg ?_
      refine at_op rfl rfl rfl (aop_alloc (zs := [(.slice none 0 0)]) tt_ok rfl rfl rfl) ?_
      rintro _ _ ⟨o8, rfl, rfl⟩
      refine at_end rfl ?_
      refine aw_seq ?_
      refine aw_normal [(0, (.tree p0)), (2, (.ref o1 0)), (4, (.ref o8 0))] (s' := [(o8, .row 24 1 [(.lit (.slice none 0 0))] 0), (o1, .row 24 1 [(.lit (.slice none 0 0))] 0)]) (by kernel_rfl) rfl ?_
      refine aw_reg ?_
      refine at_op rfl rfl rfl (aop_alloc (zs := [.nilFunc]) tt_ok rfl rfl rfl) ?_
      rintro _ _ ⟨o9, rfl, rfl⟩
      refine at_end rfl ?_
      refine aw_seq ?_
      refine aw_normal [(0, (.tree p0)), (2, (.ref o1 0)), (4, (.ref o8 0)), (5, (.ref o9 0))] (s' := [(o9, .row 30 1 [(.lit .nilFunc)] 0), (o8, .row 24 1 [(.lit (.slice none 0 0))] 0), (o1, .row 24 1 [(.lit (.slice none 0 0))] 0)]) (by kernel_rfl) rfl ?_
      refine aw_reg ?_
      refine at_run tt_ok 1 [(0, (.tree p0)), (2, (.ref o1 0)), (4, (.ref o8 0)), (5, (.ref o9 0)), (16, (.fn (.func 35) [] [(.ref o9 0), (.ref o8 0)]))] rfl (by kernel_rfl) ?_
      refine at_one rfl rfl rfl (aop_storeRef (id := o9) (off := 0) (j := 0) (ds := [(.fn (.func 35) [] [(.ref o9 0), (.ref o8 0)])]) tt_ok rfl rfl rfl rfl rfl) ?_
      refine at_end rfl ?_
      refine aw_seq ?_
      refine aw_normal [(0, (.tree p0)), (2, (.ref o1 0)), (4, (.ref o8 0)), (5, (.ref o9 0))] (s' := [(o9, .row 30 1 [(.fn (.func 35) [] [(.ref o9 0), (.ref o8 0)])] 0), (o8, .row 24 1 [(.lit (.slice none 0 0))] 0), (o1, .row 24 1 [(.lit (.slice none 0 0))] 0)]) (by kernel_rfl) rfl ?_
      refine aw_adoptCell (j := 1) 0 58 5 rfl rfl (fun o10 => ?_)
      refine aw_normal [(0, (.tree p0)), (2, (.ref o1 0)), (4, (.ref o8 0)), (5, (.ref o9 0))] (s' := [(o10, .row 58 5 ((([] : List S_Cell)).flatMap S_Cell.cs) 0), (o9, .row 30 1 [(.fn (.func 35) [] [(.ref o9 0), (.ref o8 0)])] 0), (o8, .row 24 1 [(.row o10 (([] : List S_Cell)).length)] 0), (o1, .row 24 1 [(.lit (.slice none 0 0))] 0)]) (by kernel_rfl) rfl ?_
      refine aw_reg ?_
      refine at_one rfl rfl rfl (aop_loadRef (j := 1) (off := 0) (av := (.fn (.func 35) [] [(.ref o9 0), (.ref o8 0)])) tt_ok rfl rfl rfl rfl) ?_
      refine at_run tt_ok 2 [(2, (.ref o1 0)), (4, (.ref o8 0)), (17, (.fn (.func 35) [] [(.ref o9 0), (.ref o8 0)])), (18, (.tree p0))] rfl (by kernel_rfl) ?_
      obtain ⟨⟨v60, v61⟩, hc62, h⟩ := bind_some' h
      refine at_op rfl rfl rfl (aop_call (first := []) (caps := [(.ref o9 0), (.ref o8 0)]) (xs := [(.tree p0), (.ref o9 0), (.ref o8 0)]) (args' := [(.tree p0), (.ref o9 0), (.ref o8 0)]) (sm := [(o9, .row 30 1 [(.fn (.func 35) [] [(.ref o9 0), (.ref o8 0)])] 0), (o8, .row 24 1 [(.row o10 (([] : List S_Cell)).length)] 0), (o10, .row 58 5 ((([] : List S_Cell)).flatMap S_Cell.cs) 0)]) (r := [(o1, .row 24 1 [(.lit (.slice none 0 0))] 0)]) rfl (by kernel_rfl) Try.func35 rfl rfl (arena_Pack_1_ok K o9 o8 o10 p0 (([] : List S_Cell)) _ hc62) (by kernel_rfl) (VW.refl _) (permTo [1, 1, 0] (by kernel_rfl))) ?_
      rintro _ _ ⟨_, ⟨o63, rfl, rfl⟩, rfl⟩
      refine at_end rfl ?_
      refine aw_seq ?_
      refine aw_normal [(2, (.ref o1 0)), (4, (.ref o8 0))] (s' := [(o9, .row 30 1 [(.fn (.func 35) [] [(.ref o9 0), (.ref o8 0)])] 0), (o8, .row 24 1 [(.row o63 v61.length)] 0), (o63, .row 58 5 (v61.flatMap S_Cell.cs) 0), (o1, .row 24 1 [(.lit (.slice none 0 0))] 0)]) (by kernel_rfl) rfl ?_
      refine aw_reg ?_
      refine at_one rfl rfl rfl (aop_loadRef (j := 1) (off := 0) (av := (.agg [(.row o63 v61.length)])) tt_ok rfl rfl rfl rfl) ?_
      refine at_one rfl rfl rfl (aop_storeRef (id := o1) (off := 0) (j := 3) (ds := [(.row o63 v61.length)]) tt_ok rfl rfl rfl rfl rfl) ?_
      refine at_run tt_ok 3 [(2, (.ref o1 0)), (3, (.i 0))] rfl (by kernel_rfl) ?_
      refine at_end rfl ?_
      refine aw_shift (Shift.frz (j := 2) rfl) ?_
      refine aw_shift (Shift.cell (j := 1) 0 rfl rfl (View.row (j := 2) rfl (fun h => by rw [List.eq_nil_of_length_eq_zero h]; rfl))) ?_
      refine aw_shift (Shift.cell (j := 3) 0 rfl rfl (View.row (j := 2) rfl (fun h => by rw [List.eq_nil_of_length_eq_zero h]; rfl))) ?_
      refine aw_ret ?_
      obtain rfl := Option.some.inj h
      exact ⟨(.tup [(.agg [(.slc (v61.flatMap S_Cell.cs) v61.length false)]), (.i 0)]), (.tup [(.agg [(.slc (v61.flatMap S_Cell.cs) v61.length false)]), (.i 0)]), _, (res_two rfl (res1_cell (j := 3) (id := o1) (off := 0) (av := (.agg [(.slc (v61.flatMap S_Cell.cs) v61.length false)])) tt_ok (by kernel_rfl) rfl (by kernel_rfl)) (res1_tmp (by kernel_rfl))), (View.refl _), ⟨_, perm_sel _ [], List.take_sublist 0 _⟩, rfl, rfl⟩
theorem ref04_SamePath_ok (K : Nat) : ∀ (p0 : List Int) (p1 : List Int) (r : Bool), ref04_SamePath K p0 p1 = some r → ACalls Try.prog 30 [(.slc (p0.map AV.i) p0.length false), (.slc (p1.map AV.i) p1.length false)] [] (fun av s => av = (.b r) ∧ s = []) := by
  intro p0 p1 r h
  refine acalls_enter Try.func30 rfl rfl ?_
  refine aw_seq ?_
  refine aw_normal [(0, (.slc (p0.map AV.i) p0.length false)), (1, (.slc (p1.map AV.i) p1.length false))] (s' := []) (by kernel_rfl) rfl ?_
  refine aw_reg ?_
  refine at_run tt_ok 1 [(0, (.slc (p0.map AV.i) p0.length false)), (1, (.slc (p1.map AV.i) p1.length false))] rfl (by kernel_rfl) ?_
  refine at_end rfl ?_
  refine aw_seq ?_
  refine aw_seq ?_
  refine aw_reg ?_
  refine at_run tt_ok 5 [(0, (.slc (p0.map AV.i) p0.length false)), (1, (.slc (p1.map AV.i) p1.length false)), (10, (.b ((!decide ((((p0.length : Nat) : Int)) = (((p1.length : Nat) : Int)))))))] rfl (by kernel_rfl) ?_
  refine at_end rfl ?_
  refine aw_cond ((!decide ((((p0.length : Nat) : Int)) = (((p1.length : Nat) : Int))))) rfl (fun hb1 => ?_) (fun hb1 => ?_)
  · have h := ite_t hb1 h
    refine aw_seq ?_
    refine aw_reg ?_
    refine at_run tt_ok 1 [(4, (.b false))] rfl (by kernel_rfl) ?_
    refine at_end rfl ?_
    refine aw_ret ?_
    obtain rfl := Option.some.inj h
    exact ⟨(.b false), (.b false), _, (res_tmps (by kernel_rfl)), (View.refl _), ⟨_, perm_sel _ [], List.take_sublist 0 _⟩, rfl, rfl⟩
  · have h := ite_f (by rw [hb1]; simp) h
    refine aw_skip ?_
    refine aw_seq ?_
    refine aw_seq ?_
    refine aw_reg ?_
    refine at_run tt_ok 1 [(0, (.slc (p0.map AV.i) p0.length false)), (1, (.slc (p1.map AV.i) p1.length false)), (5, (.i 0))] rfl (by kernel_rfl) ?_
    refine at_end rfl ?_
    refine aw_block ?_
    refine aw_loop_ind' (X := Int) (fun k' x => k' ≤ K ∧ ref04_SamePath_l0 k' p0 p1 x = some r) (fun x => [(0, (.slc (p0.map AV.i) p0.length false)), (1, (.slc (p1.map AV.i) p1.length false)), (5, (.i x))]) (fun x => []) (fun x hx => by cases hx.2) ?_ K 0 ⟨Nat.le_refl _, h⟩ (by kernel_rfl) rfl
    clear h
    rintro k4 w0_1 ⟨hlek4, h⟩
    refine aw_seq ?_
    refine aw_seq ?_
    refine aw_reg ?_
    refine at_run tt_ok 4 [(0, (.slc (p0.map AV.i) p0.length false)), (1, (.slc (p1.map AV.i) p1.length false)), (5, (.i w0_1)), (14, (.b ((decide (w0_1 < (((p0.length : Nat) : Int)))))))] rfl (by kernel_rfl) ?_
    refine at_end rfl ?_
    refine aw_cond ((decide (w0_1 < (((p0.length : Nat) : Int))))) rfl (fun hb5 => ?_) (fun hb5 => ?_)
    · have h := ite_t hb5 h
      refine aw_skip ?_
      refine aw_seq ?_
      refine aw_block ?_
      refine aw_seq ?_
      refine aw_draw mixed (by kernel_rfl) ?_
      refine j_run tt_ok [0, 1, 4, 5] [5, 4, 1, 0] (by kernel_rfl) ?_
      obtain ⟨v6, hv6, h⟩ := bind_some' h
      refine j_light0 2 rfl (by kernel_rfl) rfl (by kernel_rfl) (fun s => (aop_idx1 (k := .i64) (g := AV.i) (l := p0) (fu := false) (j := w0_1) (v := v6) tt_ok rfl rfl rfl (by kernel_rfl) (by kernel_rfl) hv6)) ?_
      refine j_run tt_ok [3] [3, 2, 5, 4, 1, 0] (by kernel_rfl) ?_
      obtain ⟨v7, hv7, h⟩ := bind_some' h
      refine j_light0 6 rfl (by kernel_rfl) rfl (by kernel_rfl) (fun s => (aop_idx1 (k := .i64) (g := AV.i) (l := p1) (fu := false) (j := w0_1) (v := v7) tt_ok rfl rfl rfl (by kernel_rfl) (by kernel_rfl) hv7)) ?_
      refine j_run tt_ok [7, 8] [8, 7, 6, 3, 2, 5, 4, 1, 0] (by kernel_rfl) ?_
      refine .done (by kernel_rfl) ?_
      refine aw_normal [(0, (.slc (p0.map AV.i) p0.length false)), (1, (.slc (p1.map AV.i) p1.length false)), (5, (.i w0_1)), (25, (.b ((!decide (v6 = v7)))))] (s' := []) (by kernel_rfl) rfl ?_
      refine aw_cond ((!decide (v6 = v7))) rfl (fun hb8 => ?_) (fun hb8 => ?_)
      · have h := ite_t hb8 h
        refine aw_seq ?_
        refine aw_reg ?_
        refine at_run tt_ok 1 [(4, (.b false))] rfl (by kernel_rfl) ?_
        refine at_end rfl ?_
        refine aw_ret ?_
        obtain rfl := Option.some.inj h
        exact ⟨(.b false), (.b false), _, (res_tmps (by kernel_rfl)), (View.refl _), ⟨_, perm_sel _ [], List.take_sublist 0 _⟩, rfl, rfl⟩
      · have h := ite_f (by rw [hb8]; simp) h
        refine aw_skip ?_
        refine aw_reg ?_
        refine at_run tt_ok 3 [(0, (.slc (p0.map AV.i) p0.length false)), (1, (.slc (p1.map AV.i) p1.length false)), (5, (.i ((IntKind.i64.wrap (w0_1 + 1)))))] rfl (by kernel_rfl) ?_
        refine at_end rfl ?_
        exact ⟨k4, (IntKind.i64.wrap (w0_1 + 1)), [], [], by omega, ⟨by omega, h⟩, by kernel_rfl, rfl⟩
    · have h := ite_f (by rw [hb5]; simp) h
      refine aw_exit ?_
      refine aw_seq ?_
      refine aw_reg ?_
      refine at_run tt_ok 1 [(4, (.b true))] rfl (by kernel_rfl) ?_
      refine at_end rfl ?_
      refine aw_ret ?_
      obtain rfl := Option.some.inj h
      exact ⟨(.b true), (.b true), _, (res_tmps (by kernel_rfl)), (View.refl _), ⟨_, perm_sel _ [], List.take_sublist 0 _⟩, rfl, rfl⟩
theorem law04_works_ok (K : Nat) : ∀ (r : Bool), law04_works K = some r → ACalls Try.prog 18 [] [] (fun av s => av = (.b r) ∧ s = []) := by
  intro r h
  refine acalls_enter Try.func18 rfl rfl ?_
  refine aw_seq ?_
  refine aw_normal [] (s' := []) (by kernel_rfl) rfl ?_
  refine aw_reg ?_
  refine at_run tt_ok 1 [] rfl (by kernel_rfl) ?_
  refine at_end rfl ?_
  refine aw_seq ?_
  refine aw_reg ?_
  refine at_run tt_ok 1 [(4, (.agg [(.i 1), (.i 0), (.s (([] : List UInt8))), (.s (([] : List UInt8))), (.lit (.slice none 0 0))]))] rfl (by kernel_rfl) ?_
  refine at_one rfl rfl rfl (aop_boxNode (k := 1) (n := 0) (nm := ([] : List UInt8)) (mk := ([] : List UInt8)) (c := (.lit (.slice none 0 0))) (ks := ([] : List Tr)) (cs := [(.i 1), (.i 0), (.s (([] : List UInt8))), (.s (([] : List UInt8))), (.lit (.slice none 0 0))]) rfl rfl rfl (Weak.nil_slc false)) ?_
  refine at_run tt_ok 3 [(5, (.tree ((.node 1 0 (([] : List UInt8)) (([] : List UInt8)) (([] : List Tr)))))), (6, (.agg [(.i 2), (.i 0), (.s (([] : List UInt8))), (.s (([] : List UInt8))), (.lit (.slice none 0 0))]))] rfl (by kernel_rfl) ?_
  refine at_one rfl rfl rfl (aop_boxNode (k := 2) (n := 0) (nm := ([] : List UInt8)) (mk := ([] : List UInt8)) (c := (.lit (.slice none 0 0))) (ks := ([] : List Tr)) (cs := [(.i 2), (.i 0), (.s (([] : List UInt8))), (.s (([] : List UInt8))), (.lit (.slice none 0 0))]) rfl rfl rfl (Weak.nil_slc false)) ?_
  refine at_run tt_ok 6 [(9, (.agg [(.i 6), (.i 0), (.s (([] : List UInt8))), (.s (([] : List UInt8))), (.slc ((([(.node 1 0 (([] : List UInt8)) (([] : List UInt8)) (([] : List Tr))), (.node 2 0 (([] : List UInt8)) (([] : List UInt8)) (([] : List Tr)))] : List Tr)).map AV.tree) (([(.node 1 0 (([] : List UInt8)) (([] : List UInt8)) (([] : List Tr))), (.node 2 0 (([] : List UInt8)) (([] : List UInt8)) (([] : List Tr)))] : List Tr)).length true)]))] rfl (by kernel_rfl) ?_
  refine at_one rfl rfl rfl (aop_boxNode (k := 6) (n := 0) (nm := ([] : List UInt8)) (mk := ([] : List UInt8)) (c := (.slc ((([(.node 1 0 (([] : List UInt8)) (([] : List UInt8)) (([] : List Tr))), (.node 2 0 (([] : List UInt8)) (([] : List UInt8)) (([] : List Tr)))] : List Tr)).map AV.tree) (([(.node 1 0 (([] : List UInt8)) (([] : List UInt8)) (([] : List Tr))), (.node 2 0 (([] : List UInt8)) (([] : List UInt8)) (([] : List Tr)))] : List Tr)).length true)) (ks := ([(.node 1 0 (([] : List UInt8)) (([] : List UInt8)) (([] : List Tr))), (.node 2 0 (([] : List UInt8)) (([] : List UInt8)) (([] : List Tr)))] : List Tr)) (cs := [(.i 6), (.i 0), (.s (([] : List UInt8))), (.s (([] : List UInt8))), (.slc ((([(.node 1 0 (([] : List UInt8)) (([] : List UInt8)) (([] : List Tr))), (.node 2 0 (([] : List UInt8)) (([] : List UInt8)) (([] : List Tr)))] : List Tr)).map AV.tree) (([(.node 1 0 (([] : List UInt8)) (([] : List UInt8)) (([] : List Tr))), (.node 2 0 (([] : List UInt8)) (([] : List UInt8)) (([] : List Tr)))] : List Tr)).length true)]) rfl rfl rfl (Weak.slc_full _ _ _)) ?_
  refine at_run tt_ok 8 [(1, (.tree ((.node 6 0 (([] : List UInt8)) (([] : List UInt8)) (([(.node 1 0 (([] : List UInt8)) (([] : List UInt8)) (([] : List Tr))), (.node 2 0 (([] : List UInt8)) (([] : List UInt8)) (([] : List Tr)))] : List Tr))))))] rfl (by kernel_rfl) ?_
  refine at_end rfl ?_
  refine aw_seq ?_
  refine aw_reg ?_
  refine at_run tt_ok 1 [(1, (.tree ((.node 6 0 (([] : List UInt8)) (([] : List UInt8)) (([(.node 1 0 (([] : List UInt8)) (([] : List UInt8)) (([] : List Tr))), (.node 2 0 (([] : List UInt8)) (([] : List UInt8)) (([] : List Tr)))] : List Tr)))))), (12, (.tree ((.node 6 0 (([] : List UInt8)) (([] : List UInt8)) (([(.node 1 0 (([] : List UInt8)) (([] : List UInt8)) (([] : List Tr))), (.node 2 0 (([] : List UInt8)) (([] : List UInt8)) (([] : List Tr)))] : List Tr))))))] rfl (by kernel_rfl) ?_
  obtain ⟨⟨v1, v2⟩, hc3, h⟩ := bind_some' h
  refine at_op rfl rfl rfl (aop_call (first := []) (caps := []) (xs := [(.tree ((.node 6 0 (([] : List UInt8)) (([] : List UInt8)) (([(.node 1 0 (([] : List UInt8)) (([] : List UInt8)) (([] : List Tr))), (.node 2 0 (([] : List UInt8)) (([] : List UInt8)) (([] : List Tr)))] : List Tr)))))]) (args' := [(.tree ((.node 6 0 (([] : List UInt8)) (([] : List UInt8)) (([(.node 1 0 (([] : List UInt8)) (([] : List UInt8)) (([] : List Tr))), (.node 2 0 (([] : List UInt8)) (([] : List UInt8)) (([] : List Tr)))] : List Tr)))))]) (sm := []) (r := []) rfl (by kernel_rfl) Try.func20 rfl rfl (arena_Pack_ok K ((.node 6 0 (([] : List UInt8)) (([] : List UInt8)) (([(.node 1 0 (([] : List UInt8)) (([] : List UInt8)) (([] : List Tr))), (.node 2 0 (([] : List UInt8)) (([] : List UInt8)) (([] : List Tr)))] : List Tr)))) _ hc3) (by kernel_rfl) (VW.refl _) (permTo [] (by kernel_rfl))) ?_
  rintro _ _ ⟨_, ⟨rfl, rfl⟩, rfl⟩
  refine at_run tt_ok 5 [(1, (.tree ((.node 6 0 (([] : List UInt8)) (([] : List UInt8)) (([(.node 1 0 (([] : List UInt8)) (([] : List UInt8)) (([] : List Tr))), (.node 2 0 (([] : List UInt8)) (([] : List UInt8)) (([] : List Tr)))] : List Tr)))))), (14, (.agg [(.slc (v1.flatMap S_Cell.cs) v1.length false)])), (15, (.i v2))] rfl (by kernel_rfl) ?_
  refine at_op rfl rfl rfl (aop_alloc (zs := [(.slice none 0 0)]) tt_ok rfl rfl rfl) ?_
  rintro _ _ ⟨o4, rfl, rfl⟩
  refine at_one rfl rfl rfl (aop_storeRef (id := o4) (off := 0) (j := 0) (ds := [(.slc (v1.flatMap S_Cell.cs) v1.length false)]) tt_ok rfl rfl rfl rfl rfl) ?_
  refine at_run tt_ok 8 [(1, (.tree ((.node 6 0 (([] : List UInt8)) (([] : List UInt8)) (([(.node 1 0 (([] : List UInt8)) (([] : List UInt8)) (([] : List Tr))), (.node 2 0 (([] : List UInt8)) (([] : List UInt8)) (([] : List Tr)))] : List Tr)))))), (2, (.ref o4 0)), (3, (.i v2))] rfl (by kernel_rfl) ?_
  refine at_end rfl ?_
  refine aw_seq ?_
  refine aw_reg ?_
  refine at_run tt_ok 3 [(1, (.tree ((.node 6 0 (([] : List UInt8)) (([] : List UInt8)) (([(.node 1 0 (([] : List UInt8)) (([] : List UInt8)) (([] : List Tr))), (.node 2 0 (([] : List UInt8)) (([] : List UInt8)) (([] : List Tr)))] : List Tr)))))), (2, (.ref o4 0)), (18, (.b ((decide (v2 = 0)))))] rfl (by kernel_rfl) ?_
  by_cases hb5 : (decide (v2 = 0)) = true
  · have h := ite_t hb5 h
    refine at_setb 18 rfl hb5 ?_
    refine at_run tt_ok 4 [(1, (.tree ((.node 6 0 (([] : List UInt8)) (([] : List UInt8)) (([(.node 1 0 (([] : List UInt8)) (([] : List UInt8)) (([] : List Tr))), (.node 2 0 (([] : List UInt8)) (([] : List UInt8)) (([] : List Tr)))] : List Tr)))))), (2, (.ref o4 0)), (18, (.b true)), (19, (.ref o4 0))] rfl (by kernel_rfl) ?_
    refine at_one rfl rfl rfl (aop_loadRef (j := 0) (off := 0) (av := (.slc (v1.flatMap S_Cell.cs) v1.length false)) tt_ok rfl rfl rfl rfl) ?_
    refine at_run tt_ok 9 [(1, (.tree ((.node 6 0 (([] : List UInt8)) (([] : List UInt8)) (([(.node 1 0 (([] : List UInt8)) (([] : List UInt8)) (([] : List Tr))), (.node 2 0 (([] : List UInt8)) (([] : List UInt8)) (([] : List Tr)))] : List Tr)))))), (2, (.ref o4 0)), (24, (.b ((decide ((((v1.length : Nat) : Int)) = 3)))))] rfl (by kernel_rfl) ?_
    by_cases hb6 : (decide ((((v1.length : Nat) : Int)) = 3)) = true
    · have h := ite_t hb6 h
      refine at_setb 24 rfl hb6 ?_
      refine at_run tt_ok 10 [(1, (.tree ((.node 6 0 (([] : List UInt8)) (([] : List UInt8)) (([(.node 1 0 (([] : List UInt8)) (([] : List UInt8)) (([] : List Tr))), (.node 2 0 (([] : List UInt8)) (([] : List UInt8)) (([] : List Tr)))] : List Tr)))))), (2, (.ref o4 0)), (24, (.b true)), (25, (.ref o4 0))] rfl (by kernel_rfl) ?_
      refine at_one rfl rfl rfl (aop_loadRef (j := 0) (off := 0) (av := (.slc (v1.flatMap S_Cell.cs) v1.length false)) tt_ok rfl rfl rfl rfl) ?_
      obtain ⟨v7, hv7, h⟩ := bind_some' h
      refine at_one rfl rfl rfl (aop_idxN (k := .i64) (g := S_Cell.cs) (l := v1) (fu := false) (j := 1) (v := v7) tt_ok S_Cell.len rfl rfl rfl rfl rfl hv7) ?_
      refine at_run tt_ok 17 [(1, (.tree ((.node 6 0 (([] : List UInt8)) (([] : List UInt8)) (([(.node 1 0 (([] : List UInt8)) (([] : List UInt8)) (([] : List Tr))), (.node 2 0 (([] : List UInt8)) (([] : List UInt8)) (([] : List Tr)))] : List Tr)))))), (2, (.ref o4 0)), (32, (.b ((decide (v7.fKind = 2)))))] rfl (by kernel_rfl) ?_
      by_cases hb8 : (decide (v7.fKind = 2)) = true
      · have h := ite_t hb8 h
        refine at_setb 32 rfl hb8 ?_
        refine at_run tt_ok 18 [(1, (.tree ((.node 6 0 (([] : List UInt8)) (([] : List UInt8)) (([(.node 1 0 (([] : List UInt8)) (([] : List UInt8)) (([] : List Tr))), (.node 2 0 (([] : List UInt8)) (([] : List UInt8)) (([] : List Tr)))] : List Tr)))))), (32, (.b true)), (33, (.ref o4 0))] rfl (by kernel_rfl) ?_
        refine at_one rfl rfl rfl (aop_loadRef (j := 0) (off := 0) (av := (.slc (v1.flatMap S_Cell.cs) v1.length false)) tt_ok rfl rfl rfl rfl) ?_
        obtain ⟨v9, hv9, h⟩ := bind_some' h
        refine at_one rfl rfl rfl (aop_idxN (k := .i64) (g := S_Cell.cs) (l := v1) (fu := false) (j := 2) (v := v9) tt_ok S_Cell.len rfl rfl rfl rfl rfl hv9) ?_
        refine at_run tt_ok 23 [(1, (.tree ((.node 6 0 (([] : List UInt8)) (([] : List UInt8)) (([(.node 1 0 (([] : List UInt8)) (([] : List UInt8)) (([] : List Tr))), (.node 2 0 (([] : List UInt8)) (([] : List UInt8)) (([] : List Tr)))] : List Tr)))))), (32, (.b true)), (37, (.slc (v9.fKids.map AV.i) v9.fKids.length false)), (38, (.slc ((([0, 1] : List Int)).map AV.i) (([0, 1] : List Int)).length true))] rfl (by kernel_rfl) ?_
        obtain ⟨v10, hc11, h⟩ := bind_some' h
        refine at_op rfl rfl rfl (aop_call (first := []) (caps := []) (xs := [(.slc (v9.fKids.map AV.i) v9.fKids.length false), (.slc ((([0, 1] : List Int)).map AV.i) (([0, 1] : List Int)).length true)]) (args' := [(.slc (v9.fKids.map AV.i) v9.fKids.length false), (.slc ((([0, 1] : List Int)).map AV.i) (([0, 1] : List Int)).length false)]) (sm := []) (r := [(o4, .row 24 1 [(.slc (v1.flatMap S_Cell.cs) v1.length false)] 0)]) rfl (by kernel_rfl) Try.func30 rfl rfl (ref04_SamePath_ok K v9.fKids (([0, 1] : List Int)) _ hc11) (by kernel_rfl) (VW.same (VW.cons (View.of_weak (Weak.slc_full _ _ _)) VW.nil)) (permTo [] (by kernel_rfl))) ?_
        rintro _ _ ⟨_, ⟨rfl, rfl⟩, rfl⟩
        refine at_run tt_ok 26 [(1, (.tree ((.node 6 0 (([] : List UInt8)) (([] : List UInt8)) (([(.node 1 0 (([] : List UInt8)) (([] : List UInt8)) (([] : List Tr))), (.node 2 0 (([] : List UInt8)) (([] : List UInt8)) (([] : List Tr)))] : List Tr)))))), (41, (.b v10))] rfl (by kernel_rfl) ?_
        by_cases hb12 : v10 = true
        · have h := ite_t hb12 h
          refine at_setb 41 rfl hb12 ?_
          refine at_run tt_ok 27 [(1, (.tree ((.node 6 0 (([] : List UInt8)) (([] : List UInt8)) (([(.node 1 0 (([] : List UInt8)) (([] : List UInt8)) (([] : List Tr))), (.node 2 0 (([] : List UInt8)) (([] : List UInt8)) (([] : List Tr)))] : List Tr)))))), (41, (.b true)), (42, (.tree ((.node 6 0 (([] : List UInt8)) (([] : List UInt8)) (([(.node 1 0 (([] : List UInt8)) (([] : List UInt8)) (([] : List Tr))), (.node 2 0 (([] : List UInt8)) (([] : List UInt8)) (([] : List Tr)))] : List Tr))))))] rfl (by kernel_rfl) ?_
          obtain ⟨v13, hc14, h⟩ := bind_some' h
          refine at_op rfl rfl rfl (aop_call (first := []) (caps := []) (xs := [(.tree ((.node 6 0 (([] : List UInt8)) (([] : List UInt8)) (([(.node 1 0 (([] : List UInt8)) (([] : List UInt8)) (([] : List Tr))), (.node 2 0 (([] : List UInt8)) (([] : List UInt8)) (([] : List Tr)))] : List Tr)))))]) (args' := [(.tree ((.node 6 0 (([] : List UInt8)) (([] : List UInt8)) (([(.node 1 0 (([] : List UInt8)) (([] : List UInt8)) (([] : List Tr))), (.node 2 0 (([] : List UInt8)) (([] : List UInt8)) (([] : List Tr)))] : List Tr)))))]) (sm := []) (r := [(o4, .row 24 1 [(.slc (v1.flatMap S_Cell.cs) v1.length false)] 0)]) rfl (by kernel_rfl) Try.func13 rfl rfl (arena_Size_ok K ((.node 6 0 (([] : List UInt8)) (([] : List UInt8)) (([(.node 1 0 (([] : List UInt8)) (([] : List UInt8)) (([] : List Tr))), (.node 2 0 (([] : List UInt8)) (([] : List UInt8)) (([] : List Tr)))] : List Tr)))) _ hc14) (by kernel_rfl) (VW.refl _) (permTo [] (by kernel_rfl))) ?_
          rintro _ _ ⟨_, ⟨rfl, rfl⟩, rfl⟩
          refine at_run tt_ok 31 [(1, (.tree ((.node 6 0 (([] : List UInt8)) (([] : List UInt8)) (([(.node 1 0 (([] : List UInt8)) (([] : List UInt8)) (([] : List Tr))), (.node 2 0 (([] : List UInt8)) (([] : List UInt8)) (([] : List Tr)))] : List Tr)))))), (46, (.b ((decide (v13 = 3)))))] rfl (by kernel_rfl) ?_
          by_cases hb15 : (decide (v13 = 3)) = true
          · have h := ite_t hb15 h
            refine at_setb 46 rfl hb15 ?_
            refine at_run tt_ok 33 [(46, (.b true)), (47, (.tree ((.node 6 0 (([] : List UInt8)) (([] : List UInt8)) (([(.node 1 0 (([] : List UInt8)) (([] : List UInt8)) (([] : List Tr))), (.node 2 0 (([] : List UInt8)) (([] : List UInt8)) (([] : List Tr)))] : List Tr)))))), (48, (.tree ((.node 6 0 (([] : List UInt8)) (([] : List UInt8)) (([(.node 1 0 (([] : List UInt8)) (([] : List UInt8)) (([] : List Tr))), (.node 2 0 (([] : List UInt8)) (([] : List UInt8)) (([] : List Tr)))] : List Tr))))))] rfl (by kernel_rfl) ?_
            obtain ⟨v16, hc17, h⟩ := bind_some' h
            refine at_op rfl rfl rfl (aop_call (first := []) (caps := []) (xs := [(.tree ((.node 6 0 (([] : List UInt8)) (([] : List UInt8)) (([(.node 1 0 (([] : List UInt8)) (([] : List UInt8)) (([] : List Tr))), (.node 2 0 (([] : List UInt8)) (([] : List UInt8)) (([] : List Tr)))] : List Tr))))), (.tree ((.node 6 0 (([] : List UInt8)) (([] : List UInt8)) (([(.node 1 0 (([] : List UInt8)) (([] : List UInt8)) (([] : List Tr))), (.node 2 0 (([] : List UInt8)) (([] : List UInt8)) (([] : List Tr)))] : List Tr)))))]) (args' := [(.tree ((.node 6 0 (([] : List UInt8)) (([] : List UInt8)) (([(.node 1 0 (([] : List UInt8)) (([] : List UInt8)) (([] : List Tr))), (.node 2 0 (([] : List UInt8)) (([] : List UInt8)) (([] : List Tr)))] : List Tr))))), (.tree ((.node 6 0 (([] : List UInt8)) (([] : List UInt8)) (([(.node 1 0 (([] : List UInt8)) (([] : List UInt8)) (([] : List Tr))), (.node 2 0 (([] : List UInt8)) (([] : List UInt8)) (([] : List Tr)))] : List Tr)))))]) (sm := []) (r := [(o4, .row 24 1 [(.slc (v1.flatMap S_Cell.cs) v1.length false)] 0)]) rfl (by kernel_rfl) Try.func11 rfl rfl (arena_Same_ok K ((.node 6 0 (([] : List UInt8)) (([] : List UInt8)) (([(.node 1 0 (([] : List UInt8)) (([] : List UInt8)) (([] : List Tr))), (.node 2 0 (([] : List UInt8)) (([] : List UInt8)) (([] : List Tr)))] : List Tr)))) ((.node 6 0 (([] : List UInt8)) (([] : List UInt8)) (([(.node 1 0 (([] : List UInt8)) (([] : List UInt8)) (([] : List Tr))), (.node 2 0 (([] : List UInt8)) (([] : List UInt8)) (([] : List Tr)))] : List Tr)))) _ hc17) (by kernel_rfl) (VW.refl _) (permTo [] (by kernel_rfl))) ?_
            rintro _ _ ⟨_, ⟨rfl, rfl⟩, rfl⟩
            refine at_run tt_ok 36 [(0, (.b v16))] rfl (by kernel_rfl) ?_
            refine at_end rfl ?_
            refine aw_ret ?_
            obtain rfl := Option.some.inj h
            exact ⟨(.b v16), (.b v16), _, (res_tmps (by kernel_rfl)), (View.refl _), ⟨_, perm_sel _ [], List.take_sublist 0 _⟩, rfl, rfl⟩
          · have h := ite_f hb15 h
            refine at_setb 46 rfl (nott hb15) ?_
            refine at_run tt_ok 36 [(0, (.b false))] rfl (by kernel_rfl) ?_
            refine at_end rfl ?_
            refine aw_ret ?_
            obtain rfl := Option.some.inj h
            exact ⟨(.b false), (.b false), _, (res_tmps (by kernel_rfl)), (View.refl _), ⟨_, perm_sel _ [], List.take_sublist 0 _⟩, rfl, rfl⟩
        · have h := ite_f hb12 h
          refine at_setb 41 rfl (nott hb12) ?_
          refine at_run tt_ok 36 [(0, (.b false))] rfl (by kernel_rfl) ?_
          refine at_end rfl ?_
          refine aw_ret ?_
          obtain rfl := Option.some.inj h
          exact ⟨(.b false), (.b false), _, (res_tmps (by kernel_rfl)), (View.refl _), ⟨_, perm_sel _ [], List.take_sublist 0 _⟩, rfl, rfl⟩
      · have h := ite_f hb8 h
        refine at_setb 32 rfl (nott hb8) ?_
        refine at_run tt_ok 36 [(0, (.b false))] rfl (by kernel_rfl) ?_
        refine at_end rfl ?_
        refine aw_ret ?_
        obtain rfl := Option.some.inj h
        exact ⟨(.b false), (.b false), _, (res_tmps (by kernel_rfl)), (View.refl _), ⟨_, perm_sel _ [], List.take_sublist 0 _⟩, rfl, rfl⟩
    · have h := ite_f hb6 h
      refine at_setb 24 rfl (nott hb6) ?_
      refine at_run tt_ok 36 [(0, (.b false))] rfl (by kernel_rfl) ?_
      refine at_end rfl ?_
      refine aw_ret ?_
      obtain rfl := Option.some.inj h
      exact ⟨(.b false), (.b false), _, (res_tmps (by kernel_rfl)), (View.refl _), ⟨_, perm_sel _ [], List.take_sublist 0 _⟩, rfl, rfl⟩
  · have h := ite_f hb5 h
    refine at_setb 18 rfl (nott hb5) ?_
    refine at_run tt_ok 36 [(0, (.b false))] rfl (by kernel_rfl) ?_
    refine at_end rfl ?_
    refine aw_ret ?_
    obtain rfl := Option.some.inj h
    exact ⟨(.b false), (.b false), _, (res_tmps (by kernel_rfl)), (View.refl _), ⟨_, perm_sel _ [], List.take_sublist 0 _⟩, rfl, rfl⟩
def ref04_Deep_S (K : Nat) : Prop := ∀ (p0 : Tr) (r : Int), ref04_Deep K p0 = some r → ACalls Try.prog 16 [(.tree p0)] [] (fun av s => av = (.i r) ∧ s = [])
theorem ref04_Deep_step (K : Nat) (IH : ∀ j, j < K → ref04_Deep_S j) : ref04_Deep_S K := by
  intro p0 r h
  cases K with
  | zero => cases h
  | succ k0 =>
  refine acalls_enter Try.func16 rfl rfl ?_
  refine aw_seq ?_
  refine aw_normal [(0, (.tree p0))] (s' := []) (by kernel_rfl) rfl ?_
  refine aw_reg ?_
  refine at_run tt_ok 1 [(0, (.tree p0))] rfl (by kernel_rfl) ?_
  refine at_end rfl ?_
  refine aw_seq ?_
  refine aw_seq ?_
  refine aw_reg ?_
  refine at_run tt_ok 1 [(0, (.tree p0)), (6, (.tree p0))] rfl (by kernel_rfl) ?_
  cases p0 with
  | nil =>
    refine at_run tt_ok 2 [(0, (.tree (.nil))), (7, (.b true))] rfl (by kernel_rfl) ?_
    refine at_end rfl ?_
    refine aw_cond true rfl (fun _ => ?_) (fun h => by cases h)
    refine aw_seq ?_
    refine aw_reg ?_
    refine at_run tt_ok 1 [(2, (.i 0))] rfl (by kernel_rfl) ?_
    refine at_end rfl ?_
    refine aw_ret ?_
    obtain rfl := Option.some.inj h
    exact ⟨(.i 0), (.i 0), _, (res_tmps (by kernel_rfl)), (View.refl _), ⟨_, perm_sel _ [], List.take_sublist 0 _⟩, rfl, rfl⟩
  | node n1 n2 n3 n4 n5 =>
    refine at_run tt_ok 2 [(0, (.tree ((.node n1 n2 n3 n4 n5)))), (7, (.b false))] rfl (by kernel_rfl) ?_
    refine at_end rfl ?_
    refine aw_cond false rfl (fun h => by cases h) (fun _ => ?_)
    refine aw_skip ?_
    refine aw_seq ?_
    refine aw_reg ?_
    refine at_run tt_ok 1 [(0, (.tree ((.node n1 n2 n3 n4 n5)))), (3, (.i 0))] rfl (by kernel_rfl) ?_
    refine at_end rfl ?_
    refine aw_seq ?_
    refine aw_seq ?_
    refine aw_reg ?_
    refine at_run tt_ok 1 [(0, (.tree ((.node n1 n2 n3 n4 n5)))), (3, (.i 0)), (4, (.i 0))] rfl (by kernel_rfl) ?_
    refine at_end rfl ?_
    refine aw_block ?_
    refine aw_loop_ind' (X := Int × Int) (fun k' x => k' ≤ k0 ∧ ref04_Deep_l0 k' n1 n2 n3 n4 n5 x.1 x.2 = some r) (fun x => [(0, (.tree ((.node n1 n2 n3 n4 n5)))), (3, (.i x.1)), (4, (.i x.2))]) (fun x => []) (fun x hx => by cases hx.2) ?_ k0 (0, 0) ⟨Nat.le_refl _, h⟩ (by kernel_rfl) rfl
    clear h
    rintro k9 ⟨w0_1, w0_2⟩ ⟨hlek9, h⟩
    refine aw_seq ?_
    refine aw_seq ?_
    refine aw_reg ?_
    refine at_run tt_ok 7 [(0, (.tree ((.node n1 n2 n3 n4 n5)))), (3, (.i w0_1)), (4, (.i w0_2)), (14, (.b ((decide (w0_2 < (((n5.length : Nat) : Int)))))))] rfl (by kernel_rfl) ?_
    refine at_end rfl ?_
    refine aw_cond ((decide (w0_2 < (((n5.length : Nat) : Int))))) rfl (fun hb10 => ?_) (fun hb10 => ?_)
    · have h := ite_t hb10 h
      refine aw_skip ?_
      refine aw_seq ?_
      refine aw_block ?_
      refine aw_seq ?_
      refine aw_reg ?_
      refine at_run tt_ok 5 [(0, (.tree ((.node n1 n2 n3 n4 n5)))), (3, (.i w0_1)), (4, (.i w0_2)), (20, (.slc (n5.map AV.tree) n5.length false)), (21, (.i w0_2))] rfl (by kernel_rfl) ?_
      obtain ⟨v11, hv11, h⟩ := bind_some' h
      refine at_one rfl rfl rfl (aop_idx1 (k := .i64) (g := AV.tree) (l := n5) (fu := false) (j := w0_2) (v := v11) tt_ok rfl rfl rfl rfl rfl hv11) ?_
      refine at_run tt_ok 7 [(0, (.tree ((.node n1 n2 n3 n4 n5)))), (3, (.i w0_1)), (4, (.i w0_2)), (23, (.tree v11))] rfl (by kernel_rfl) ?_
      obtain ⟨v12, hc13, h⟩ := bind_some' h
      refine at_op rfl rfl rfl (aop_call (first := []) (caps := []) (xs := [(.tree v11)]) (args' := [(.tree v11)]) (sm := []) (r := []) rfl (by kernel_rfl) Try.func16 rfl rfl ((IH k9 (by omega)) v11 _ hc13) (by kernel_rfl) (VW.refl _) (permTo [] (by kernel_rfl))) ?_
      rintro _ _ ⟨_, ⟨rfl, rfl⟩, rfl⟩
      refine at_run tt_ok 9 [(0, (.tree ((.node n1 n2 n3 n4 n5)))), (3, (.i w0_1)), (4, (.i w0_2)), (5, (.i v12))] rfl (by kernel_rfl) ?_
      refine at_end rfl ?_
      refine aw_seq ?_
      refine aw_reg ?_
      refine at_run tt_ok 3 [(0, (.tree ((.node n1 n2 n3 n4 n5)))), (3, (.i w0_1)), (4, (.i w0_2)), (5, (.i v12)), (27, (.b ((decide (w0_1 < v12)))))] rfl (by kernel_rfl) ?_
      refine at_end rfl ?_
      refine aw_cond ((decide (w0_1 < v12))) rfl (fun hb14 => ?_) (fun hb14 => ?_)
      · have h := ite_t hb14 h
        refine aw_reg ?_
        refine at_run tt_ok 2 [(0, (.tree ((.node n1 n2 n3 n4 n5)))), (3, (.i v12)), (4, (.i w0_2))] rfl (by kernel_rfl) ?_
        refine at_end rfl ?_
        refine aw_reg ?_
        refine at_run tt_ok 3 [(0, (.tree ((.node n1 n2 n3 n4 n5)))), (3, (.i v12)), (4, (.i ((IntKind.i64.wrap (w0_2 + 1)))))] rfl (by kernel_rfl) ?_
        refine at_end rfl ?_
        exact ⟨k9, (v12, (IntKind.i64.wrap (w0_2 + 1))), [], [], by omega, ⟨by omega, h⟩, by kernel_rfl, rfl⟩
      · have h := ite_f (by rw [hb14]; simp) h
        refine aw_skip ?_
        refine aw_reg ?_
        refine at_run tt_ok 3 [(0, (.tree ((.node n1 n2 n3 n4 n5)))), (3, (.i w0_1)), (4, (.i ((IntKind.i64.wrap (w0_2 + 1)))))] rfl (by kernel_rfl) ?_
        refine at_end rfl ?_
        exact ⟨k9, (w0_1, (IntKind.i64.wrap (w0_2 + 1))), [], [], by omega, ⟨by omega, h⟩, by kernel_rfl, rfl⟩
    · have h := ite_f (by rw [hb10]; simp) h
      refine aw_exit ?_
      refine aw_seq ?_
      refine aw_reg ?_
      refine at_run tt_ok 3 [(2, (.i ((IntKind.i64.wrap (1 + w0_1)))))] rfl (by kernel_rfl) ?_
      refine at_end rfl ?_
      refine aw_ret ?_
      obtain rfl := Option.some.inj h
      exact ⟨(.i ((IntKind.i64.wrap (1 + w0_1)))), (.i ((IntKind.i64.wrap (1 + w0_1)))), _, (res_tmps (by kernel_rfl)), (View.refl _), ⟨_, perm_sel _ [], List.take_sublist 0 _⟩, rfl, rfl⟩
theorem ref04_Deep_all (K : Nat) : ref04_Deep_S K := by
  induction K using Nat.strongRecOn with
  | _ K IH => exact ref04_Deep_step K IH
theorem ref04_Deep_ok (K : Nat) : ∀ (p0 : Tr) (r : Int), ref04_Deep K p0 = some r → ACalls Try.prog 16 [(.tree p0)] [] (fun av s => av = (.i r) ∧ s = []) := (ref04_Deep_all K)
def ref04_grow_S (K : Nat) : Prop := ∀ (p0 : List S_Cell) (p1 : Int) (r : Tr), ref04_grow K p0 p1 = some r → ACalls Try.prog 31 [(.agg [(.slc (p0.flatMap S_Cell.cs) p0.length false)]), (.i p1)] [] (fun av s => av = (.tree r) ∧ s = [])
theorem ref04_grow_step (K : Nat) (IH : ∀ j, j < K → ref04_grow_S j) : ref04_grow_S K := by
  intro p0 p1 r h
  cases K with
  | zero => cases h
  | succ k0 =>
  refine acalls_enter Try.func31 rfl rfl ?_
  refine aw_seq ?_
  refine aw_normal [(0, (.agg [(.slc (p0.flatMap S_Cell.cs) p0.length false)])), (1, (.i p1))] (s' := []) (by kernel_rfl) rfl ?_
  refine aw_reg ?_
  refine at_run tt_ok 2 [(1, (.i p1)), (2, (.ptr [(.slc (p0.flatMap S_Cell.cs) p0.length false)]))] rfl (by kernel_rfl) ?_
  refine at_end rfl ?_
  refine aw_seq ?_
  refine aw_reg ?_
  refine at_run tt_ok 3 [(2, (.ptr [(.slc (p0.flatMap S_Cell.cs) p0.length false)])), (9, (.slc (p0.flatMap S_Cell.cs) p0.length false)), (10, (.i p1))] rfl (by kernel_rfl) ?_
  obtain ⟨v1, hv1, h⟩ := bind_some' h
  refine at_one rfl rfl rfl (aop_idxN (k := .i64) (g := S_Cell.cs) (l := p0) (fu := false) (j := p1) (v := v1) tt_ok S_Cell.len rfl rfl rfl rfl rfl hv1) ?_
  refine at_run tt_ok 5 [(2, (.ptr [(.slc (p0.flatMap S_Cell.cs) p0.length false)])), (12, (.agg [(.i v1.fKind), (.i v1.fN), (.s v1.fName), (.s v1.fMark), (.slc (v1.fKids.map AV.i) v1.fKids.length false)]))] rfl (by kernel_rfl) ?_
  refine at_op rfl rfl rfl (aop_alloc (zs := [(.int .i64 0), (.int .i64 0), (.string ⟨#[]⟩), (.string ⟨#[]⟩), (.slice none 0 0)]) tt_ok rfl rfl rfl) ?_
  rintro _ _ ⟨o2, rfl, rfl⟩
  refine at_one rfl rfl rfl (aop_storeRef (id := o2) (off := 0) (j := 0) (ds := [(.i v1.fKind), (.i v1.fN), (.s v1.fName), (.s v1.fMark), (.slc (v1.fKids.map AV.i) v1.fKids.length false)]) tt_ok rfl rfl rfl rfl rfl) ?_
  refine at_end rfl ?_
  refine aw_seq ?_
  refine aw_normal [(2, (.ptr [(.slc (p0.flatMap S_Cell.cs) p0.length false)])), (5, (.ref o2 0))] (s' := [(o2, .row 58 5 [(.i v1.fKind), (.i v1.fN), (.s v1.fName), (.s v1.fMark), (.slc (v1.fKids.map AV.i) v1.fKids.length false)] 0)]) (by kernel_rfl) rfl ?_
  refine aw_reg ?_
  refine at_run tt_ok 1 [(2, (.ptr [(.slc (p0.flatMap S_Cell.cs) p0.length false)])), (5, (.ref o2 0)), (13, (.ref o2 0))] rfl (by kernel_rfl) ?_
  refine at_one rfl rfl rfl (aop_loadRef (j := 0) (off := 0) (av := (.i v1.fKind)) tt_ok rfl rfl rfl rfl) ?_
  refine at_run tt_ok 3 [(2, (.ptr [(.slc (p0.flatMap S_Cell.cs) p0.length false)])), (5, (.ref o2 0)), (14, (.i v1.fKind)), (15, (.ref o2 1))] rfl (by kernel_rfl) ?_
  refine at_one rfl rfl rfl (aop_loadRef (j := 0) (off := 1) (av := (.i v1.fN)) tt_ok rfl rfl rfl rfl) ?_
  refine at_run tt_ok 5 [(2, (.ptr [(.slc (p0.flatMap S_Cell.cs) p0.length false)])), (5, (.ref o2 0)), (14, (.i v1.fKind)), (16, (.i v1.fN)), (17, (.ref o2 2))] rfl (by kernel_rfl) ?_
  refine at_one rfl rfl rfl (aop_loadRef (j := 0) (off := 2) (av := (.s v1.fName)) tt_ok rfl rfl rfl rfl) ?_
  refine at_run tt_ok 7 [(2, (.ptr [(.slc (p0.flatMap S_Cell.cs) p0.length false)])), (5, (.ref o2 0)), (14, (.i v1.fKind)), (16, (.i v1.fN)), (18, (.s v1.fName)), (19, (.ref o2 3))] rfl (by kernel_rfl) ?_
  refine at_one rfl rfl rfl (aop_loadRef (j := 0) (off := 3) (av := (.s v1.fMark)) tt_ok rfl rfl rfl rfl) ?_
  refine at_run tt_ok 9 [(2, (.ptr [(.slc (p0.flatMap S_Cell.cs) p0.length false)])), (5, (.ref o2 0)), (21, (.agg [(.i v1.fKind), (.i v1.fN), (.s v1.fName), (.s v1.fMark), (.lit (.slice none 0 0))]))] rfl (by kernel_rfl) ?_
  refine at_op rfl rfl rfl (aop_box (cs := [(.i v1.fKind), (.i v1.fN), (.s v1.fName), (.s v1.fMark), (.lit (.slice none 0 0))]) rfl rfl) ?_
  rintro _ _ ⟨o3, rfl, rfl⟩
  refine at_run tt_ok 11 [(2, (.ptr [(.slc (p0.flatMap S_Cell.cs) p0.length false)])), (5, (.ref o2 0)), (6, (.ref o3 0))] rfl (by kernel_rfl) ?_
  refine at_end rfl ?_
  refine aw_seq ?_
  refine aw_seq ?_
  refine aw_reg ?_
  refine at_run tt_ok 1 [(2, (.ptr [(.slc (p0.flatMap S_Cell.cs) p0.length false)])), (5, (.ref o2 0)), (6, (.ref o3 0)), (7, (.i 0))] rfl (by kernel_rfl) ?_
  refine at_end rfl ?_
  refine aw_block ?_
  refine aw_adoptCell (j := 0) 4 25 1 rfl rfl (fun o6 => ?_)
  refine aw_normal [(2, (.ptr [(.slc (p0.flatMap S_Cell.cs) p0.length false)])), (5, (.ref o2 0)), (6, (.ref o3 0)), (7, (.i 0))] (s' := [(o6, .row 25 1 ((([] : List Tr)).map AV.tree) 0), (o3, .row 34 5 [(.i v1.fKind), (.i v1.fN), (.s v1.fName), (.s v1.fMark), (.row o6 (([] : List Tr)).length)] 0), (o2, .row 58 5 [(.i v1.fKind), (.i v1.fN), (.s v1.fName), (.s v1.fMark), (.slc (v1.fKids.map AV.i) v1.fKids.length false)] 0)]) (by kernel_rfl) rfl ?_
  refine aw_loop_ind' (X := Int × (List Tr) × Nat) (fun k' x => k' ≤ k0 ∧ ref04_grow_l0 k' p0 v1 x.1 x.2.1 = some r) (fun x => [(2, (.ptr [(.slc (p0.flatMap S_Cell.cs) p0.length false)])), (5, (.ref o2 0)), (6, (.ref o3 0)), (7, (.i x.1))]) (fun x => [(x.2.2, .row 25 1 (x.2.1.map AV.tree) 0), (o3, .row 34 5 [(.i v1.fKind), (.i v1.fN), (.s v1.fName), (.s v1.fMark), (.row x.2.2 x.2.1.length)] 0), (o2, .row 58 5 [(.i v1.fKind), (.i v1.fN), (.s v1.fName), (.s v1.fMark), (.slc (v1.fKids.map AV.i) v1.fKids.length false)] 0)]) (fun x hx => by cases hx.2) ?_ k0 (0, ([] : List Tr), o6) ⟨Nat.le_refl _, h⟩ (by kernel_rfl) rfl
  clear h
  rintro k10 ⟨w0_2, w0_3, i0_1⟩ ⟨hlek10, h⟩
  refine aw_seq ?_
  refine aw_seq ?_
  refine aw_reg ?_
  refine at_run tt_ok 2 [(2, (.ptr [(.slc (p0.flatMap S_Cell.cs) p0.length false)])), (5, (.ref o2 0)), (6, (.ref o3 0)), (7, (.i w0_2)), (23, (.i w0_2)), (24, (.ref o2 4))] rfl (by kernel_rfl) ?_
  refine at_one rfl rfl rfl (aop_loadRef (j := 2) (off := 4) (av := (.slc (v1.fKids.map AV.i) v1.fKids.length false)) tt_ok rfl rfl rfl rfl) ?_
  refine at_run tt_ok 5 [(2, (.ptr [(.slc (p0.flatMap S_Cell.cs) p0.length false)])), (5, (.ref o2 0)), (6, (.ref o3 0)), (7, (.i w0_2)), (27, (.b ((decide (w0_2 < (((v1.fKids.length : Nat) : Int)))))))] rfl (by kernel_rfl) ?_
  refine at_end rfl ?_
  refine aw_cond ((decide (w0_2 < (((v1.fKids.length : Nat) : Int))))) rfl (fun hb11 => ?_) (fun hb11 => ?_)
  · have h := ite_t hb11 h
    refine aw_skip ?_
    refine aw_seq ?_
    refine aw_block ?_
    refine aw_draw mixed (by kernel_rfl) ?_
    refine j_run tt_ok [0, 1, 2, 3, 5, 6, 8] [8, 6, 5, 3, 2, 1, 0] (by kernel_rfl) ?_
    refine j_light1 4 (o3, .row 34 5 [(.i v1.fKind), (.i v1.fN), (.s v1.fName), (.s v1.fMark), (.row i0_1 w0_3.length)] 0) rfl (by kernel_rfl) rfl (by kernel_rfl) (fun s hq => (aop_loadM (av := (.row i0_1 w0_3.length)) (off := 4) tt_ok hq rfl (by kernel_rfl) (by kernel_rfl))) (j := 1) rfl ?_
    refine j_light1 7 (o2, .row 58 5 [(.i v1.fKind), (.i v1.fN), (.s v1.fName), (.s v1.fMark), (.slc (v1.fKids.map AV.i) v1.fKids.length false)] 0) rfl (by kernel_rfl) rfl (by kernel_rfl) (fun s hq => (aop_loadM (av := (.slc (v1.fKids.map AV.i) v1.fKids.length false)) (off := 4) tt_ok hq rfl (by kernel_rfl) (by kernel_rfl))) (j := 2) rfl ?_
    obtain ⟨v12, hv12, h⟩ := bind_some' h
    refine j_light0 9 rfl (by kernel_rfl) rfl (by kernel_rfl) (fun s => (aop_idx1 (k := .i64) (g := AV.i) (l := v1.fKids) (fu := false) (j := w0_2) (v := v12) tt_ok rfl rfl rfl (by kernel_rfl) (by kernel_rfl) hv12)) ?_
    refine j_run tt_ok [10] [10, 9, 7, 4, 8, 6, 5, 3, 2, 1, 0] (by kernel_rfl) ?_
    obtain ⟨v15, hc16, h⟩ := bind_some' h
    refine .heavy 11 _ _ rfl (by kernel_rfl) rfl (by kernel_rfl) (aop_call (first := []) (caps := []) (xs := [(.agg [(.slc (p0.flatMap S_Cell.cs) p0.length false)]), (.i v12)]) (args' := [(.agg [(.slc (p0.flatMap S_Cell.cs) p0.length false)]), (.i v12)]) (sm := []) (r := [(i0_1, .row 25 1 (w0_3.map AV.tree) 0), (o3, .row 34 5 [(.i v1.fKind), (.i v1.fN), (.s v1.fName), (.s v1.fMark), (.row i0_1 w0_3.length)] 0), (o2, .row 58 5 [(.i v1.fKind), (.i v1.fN), (.s v1.fName), (.s v1.fMark), (.slc (v1.fKids.map AV.i) v1.fKids.length false)] 0)]) rfl (by kernel_rfl) Try.func31 rfl rfl ((IH k10 (by omega)) p0 v12 _ hc16) (by kernel_rfl) (VW.refl _) (permTo [] (by kernel_rfl))) ?_ ?_
    · rintro _ _ ⟨_, ⟨rfl, rfl⟩, rfl⟩ l hl
      rcases List.mem_cons.1 hl with rfl | hl
      · exact .inr (fun p hp => by rw [List.mem_singleton.1 hp]; exact List.mem_of_getElem? (i := 2) rfl)
      · rcases List.mem_cons.1 hl with rfl | hl
        · exact .inr (fun p hp => by rw [List.mem_singleton.1 hp]; exact List.mem_of_getElem? (i := 1) rfl)
        · cases hl
    rintro _ _ ⟨_, ⟨rfl, rfl⟩, rfl⟩
    refine j_run tt_ok [12] [12, 11, 10, 9, 7, 4, 8, 6, 5, 3, 2, 1, 0] (by kernel_rfl) ?_
    obtain ⟨v19, hv19, h⟩ := bind_some' h
    refine .heavy 13 _ _ rfl (by kernel_rfl) rfl (by kernel_rfl) (aop_app1 (g := AV.tree) (l := w0_3) (d := ([v15] : List Tr)) (v := v19) (f := true) (id := i0_1) (j := 0) tt_ok hv19 rfl rfl rfl rfl rfl rfl rfl (by kernel_rfl) (by kernel_rfl) rfl) ?_ ?_
    · rintro _ _ ⟨o20, rfl, rfl⟩ l hl
      rcases List.mem_cons.1 hl with rfl | hl
      · exact .inr (fun p hp => by rw [List.mem_singleton.1 hp]; exact List.mem_of_getElem? (i := 2) rfl)
      · rcases List.mem_cons.1 hl with rfl | hl
        · exact .inl (by kernel_rfl)
        · cases hl
    rintro _ _ ⟨o20, rfl, rfl⟩
    refine j_run tt_ok [14, 15] [15, 14, 13, 12, 11, 10, 9, 7, 4, 8, 6, 5, 3, 2, 1, 0] (by kernel_rfl) ?_
    refine .heavy 16 _ _ rfl (by kernel_rfl) rfl (by kernel_rfl) (aop_storeRef (id := o3) (off := 4) (j := 1) (ds := [(.row o20 v19.length)]) tt_ok rfl (by kernel_rfl) rfl (by kernel_rfl) rfl) ?_ ?_
    · rintro _ _ ⟨rfl, rfl⟩ l hl
      rcases List.mem_cons.1 hl with rfl | hl
      · exact .inl (by kernel_rfl)
      · rcases List.mem_cons.1 hl with rfl | hl
        · exact .inl (by kernel_rfl)
        · cases hl
    rintro _ _ ⟨rfl, rfl⟩
    refine .done (by kernel_rfl) ?_
    refine aw_normal [(2, (.ptr [(.slc (p0.flatMap S_Cell.cs) p0.length false)])), (5, (.ref o2 0)), (6, (.ref o3 0)), (7, (.i w0_2))] (s' := [(o20, .row 25 1 (v19.map AV.tree) 0), (o3, .row 34 5 [(.i v1.fKind), (.i v1.fN), (.s v1.fName), (.s v1.fMark), (.row o20 v19.length)] 0), (o2, .row 58 5 [(.i v1.fKind), (.i v1.fN), (.s v1.fName), (.s v1.fMark), (.slc (v1.fKids.map AV.i) v1.fKids.length false)] 0)]) (by kernel_rfl) rfl ?_
    refine aw_reg ?_
    refine at_run tt_ok 3 [(2, (.ptr [(.slc (p0.flatMap S_Cell.cs) p0.length false)])), (5, (.ref o2 0)), (6, (.ref o3 0)), (7, (.i ((IntKind.i64.wrap (w0_2 + 1)))))] rfl (by kernel_rfl) ?_
    refine at_end rfl ?_
    exact ⟨k10, ((IntKind.i64.wrap (w0_2 + 1)), v19, o20), [0, 0, 0], [], by omega, ⟨by omega, h⟩, by kernel_rfl, rfl⟩
  · have h := ite_f (by rw [hb11]; simp) h
    refine aw_exit ?_
    refine aw_seq ?_
    refine aw_reg ?_
    refine at_run tt_ok 2 [(4, (.ref o3 0))] rfl (by kernel_rfl) ?_
    refine at_end rfl ?_
    refine aw_shift (Shift.frz (j := 0) rfl) ?_
    refine aw_shift (Shift.cell (j := 1) 4 rfl rfl (View.row (j := 0) rfl (fun h => by rw [List.eq_nil_of_length_eq_zero h]; rfl))) ?_
    refine aw_shift (Shift.frz (j := 1) rfl) ?_
    refine aw_ret ?_
    obtain rfl := Option.some.inj h
    exact ⟨(.ref o3 0), (.tree ((.node v1.fKind v1.fN v1.fName v1.fMark w0_3))), _, (res_tmps (by kernel_rfl)), ((View.ref (j := 1) rfl).trans (View.of_weak (Weak.node_tree _ _ _ _ _))), ⟨_, perm_sel _ [], List.take_sublist 0 _⟩, rfl, rfl⟩
theorem ref04_grow_all (K : Nat) : ref04_grow_S K := by
  induction K using Nat.strongRecOn with
  | _ K IH => exact ref04_grow_step K IH
theorem ref04_grow_ok (K : Nat) : ∀ (p0 : List S_Cell) (p1 : Int) (r : Tr), ref04_grow K p0 p1 = some r → ACalls Try.prog 31 [(.agg [(.slc (p0.flatMap S_Cell.cs) p0.length false)]), (.i p1)] [] (fun av s => av = (.tree r) ∧ s = []) := (ref04_grow_all K)
theorem ref04_Open_ok (K : Nat) : ∀ (p0 : List S_Cell) (r : Tr × Int), ref04_Open K p0 = some r → ACalls Try.prog 9 [(.agg [(.slc (p0.flatMap S_Cell.cs) p0.length false)])] [] (fun av s => av = (.tup [(.tree r.1), (.i r.2)]) ∧ s = []) := by
  intro p0 r h
  refine acalls_enter Try.func9 rfl rfl ?_
  refine aw_seq ?_
  refine aw_normal [(0, (.agg [(.slc (p0.flatMap S_Cell.cs) p0.length false)]))] (s' := []) (by kernel_rfl) rfl ?_
  refine aw_reg ?_
  refine at_run tt_ok 3 [(1, (.ptr [(.slc (p0.flatMap S_Cell.cs) p0.length false)]))] rfl (by kernel_rfl) ?_
  refine at_end rfl ?_
  refine aw_seq ?_
  refine aw_reg ?_
  refine at_run tt_ok 4 [(1, (.ptr [(.slc (p0.flatMap S_Cell.cs) p0.length false)])), (4, (.i (((p0.length : Nat) : Int))))] rfl (by kernel_rfl) ?_
  refine at_end rfl ?_
  refine aw_seq ?_
  refine aw_seq ?_
  refine aw_reg ?_
  refine at_run tt_ok 2 [(1, (.ptr [(.slc (p0.flatMap S_Cell.cs) p0.length false)])), (4, (.i (((p0.length : Nat) : Int)))), (14, (.b ((decide ((((p0.length : Nat) : Int)) = 0)))))] rfl (by kernel_rfl) ?_
  refine at_end rfl ?_
  refine aw_cond ((decide ((((p0.length : Nat) : Int)) = 0))) rfl (fun hb1 => ?_) (fun hb1 => ?_)
  · have h := ite_t hb1 h
    refine aw_seq ?_
    refine aw_reg ?_
    refine at_run tt_ok 2 [(2, .nil), (3, (.i 1))] rfl (by kernel_rfl) ?_
    refine at_end rfl ?_
    refine aw_ret ?_
    obtain rfl := Option.some.inj h
    exact ⟨(.tup [.nil, (.i 1)]), (.tup [(.tree (.nil)), (.i 1)]), _, (res_tmps (by kernel_rfl)), (View.tup (VW.cons (View.of_weak Weak.nil_tree) (VW.same VW.nil))), ⟨_, perm_sel _ [], List.take_sublist 0 _⟩, rfl, rfl⟩
  · have h := ite_f (by rw [hb1]; simp) h
    refine aw_skip ?_
    refine aw_seq ?_
    refine aw_seq ?_
    refine aw_reg ?_
    refine at_run tt_ok 2 [(1, (.ptr [(.slc (p0.flatMap S_Cell.cs) p0.length false)])), (4, (.i (((p0.length : Nat) : Int)))), (16, (.b ((decide (8192 < (((p0.length : Nat) : Int)))))))] rfl (by kernel_rfl) ?_
    refine at_end rfl ?_
    refine aw_cond ((decide (8192 < (((p0.length : Nat) : Int))))) rfl (fun hb2 => ?_) (fun hb2 => ?_)
    · have h := ite_t hb2 h
      refine aw_seq ?_
      refine aw_reg ?_
      refine at_run tt_ok 2 [(2, .nil), (3, (.i 3))] rfl (by kernel_rfl) ?_
      refine at_end rfl ?_
      refine aw_ret ?_
      obtain rfl := Option.some.inj h
      exact ⟨(.tup [.nil, (.i 3)]), (.tup [(.tree (.nil)), (.i 3)]), _, (res_tmps (by kernel_rfl)), (View.tup (VW.cons (View.of_weak Weak.nil_tree) (VW.same VW.nil))), ⟨_, perm_sel _ [], List.take_sublist 0 _⟩, rfl, rfl⟩
    · have h := ite_f (by rw [hb2]; simp) h
      refine aw_skip ?_
      refine aw_seq ?_
      refine aw_reg ?_
      refine at_run tt_ok 1 [(1, (.ptr [(.slc (p0.flatMap S_Cell.cs) p0.length false)])), (4, (.i (((p0.length : Nat) : Int)))), (17, (.i (((p0.length : Nat) : Int))))] rfl (by kernel_rfl) ?_
      obtain ⟨v3, hv3, h⟩ := bind_some' h
      refine at_op rfl rfl rfl (aop_mk1 (k1 := .i64) (k2 := .i64) (g := AV.i) (z := 0) (r := v3) (l := ((p0.length : Nat) : Int)) tt_ok hv3 rfl rfl rfl rfl rfl rfl rfl (Weak.refl _) rfl rfl) ?_
      rintro _ _ ⟨o4, rfl, rfl⟩
      refine at_run tt_ok 3 [(1, (.ptr [(.slc (p0.flatMap S_Cell.cs) p0.length false)])), (4, (.i (((p0.length : Nat) : Int)))), (5, (.row o4 v3.length))] rfl (by kernel_rfl) ?_
      refine at_end rfl ?_
      refine aw_seq ?_
      refine aw_seq ?_
      refine aw_reg ?_
      refine at_run tt_ok 1 [(1, (.ptr [(.slc (p0.flatMap S_Cell.cs) p0.length false)])), (4, (.i (((p0.length : Nat) : Int)))), (5, (.row o4 v3.length)), (6, (.i 0))] rfl (by kernel_rfl) ?_
      refine at_end rfl ?_
      refine aw_block ?_
      refine aw_loop_ind' (X := Int × (List Int)) (fun k' x => k' ≤ K ∧ ref04_Open_l0 k' p0 x.1 x.2 = some r) (fun x => [(1, (.ptr [(.slc (p0.flatMap S_Cell.cs) p0.length false)])), (4, (.i (((p0.length : Nat) : Int)))), (5, (.row o4 x.2.length)), (6, (.i x.1))]) (fun x => [(o4, .row 3 1 (x.2.map AV.i) 0)]) (fun x hx => by cases hx.2) ?_ K (0, v3) ⟨Nat.le_refl _, h⟩ (by kernel_rfl) rfl
      clear h
      rintro k8 ⟨w0_1, w0_2⟩ ⟨hlek8, h⟩
      refine aw_seq ?_
      refine aw_seq ?_
      refine aw_reg ?_
      refine at_run tt_ok 3 [(1, (.ptr [(.slc (p0.flatMap S_Cell.cs) p0.length false)])), (4, (.i (((p0.length : Nat) : Int)))), (5, (.row o4 w0_2.length)), (6, (.i w0_1)), (21, (.b ((decide (w0_1 < (((p0.length : Nat) : Int)))))))] rfl (by kernel_rfl) ?_
      refine at_end rfl ?_
      refine aw_cond ((decide (w0_1 < (((p0.length : Nat) : Int))))) rfl (fun hb9 => ?_) (fun hb9 => ?_)
      · have h := ite_t hb9 h
        refine aw_skip ?_
        refine aw_seq ?_
        refine aw_block ?_
        refine aw_seq ?_
        refine aw_reg ?_
        refine at_run tt_ok 1 [(1, (.ptr [(.slc (p0.flatMap S_Cell.cs) p0.length false)])), (4, (.i (((p0.length : Nat) : Int)))), (5, (.row o4 w0_2.length)), (6, (.i w0_1)), (7, (.i 0))] rfl (by kernel_rfl) ?_
        refine at_end rfl ?_
        refine aw_block ?_
        refine aw_loop_ind' (X := Int × (List Int)) (fun k' x => k' ≤ k8 ∧ ref04_Open_l1 k' p0 w0_1 x.1 x.2 = some r) (fun x => [(1, (.ptr [(.slc (p0.flatMap S_Cell.cs) p0.length false)])), (4, (.i (((p0.length : Nat) : Int)))), (5, (.row o4 x.2.length)), (6, (.i w0_1)), (7, (.i x.1))]) (fun x => [(o4, .row 3 1 (x.2.map AV.i) 0)]) (fun x hx => by cases hx.2) ?_ k8 (0, w0_2) ⟨Nat.le_refl _, h⟩ (by kernel_rfl) rfl
        clear h
        rintro k13 ⟨w1_1, w1_2⟩ ⟨hlek13, h⟩
        refine aw_seq ?_
        refine aw_seq ?_
        refine aw_reg ?_
        refine at_run tt_ok 4 [(1, (.ptr [(.slc (p0.flatMap S_Cell.cs) p0.length false)])), (4, (.i (((p0.length : Nat) : Int)))), (5, (.row o4 w1_2.length)), (6, (.i w0_1)), (7, (.i w1_1)), (24, (.i w1_1)), (26, (.slc (p0.flatMap S_Cell.cs) p0.length false)), (27, (.i w0_1))] rfl (by kernel_rfl) ?_
        obtain ⟨v14, hv14, h⟩ := bind_some' h
        refine at_one rfl rfl rfl (aop_idxN (k := .i64) (g := S_Cell.cs) (l := p0) (fu := false) (j := w0_1) (v := v14) tt_ok S_Cell.len rfl rfl rfl rfl rfl hv14) ?_
        refine at_run tt_ok 9 [(1, (.ptr [(.slc (p0.flatMap S_Cell.cs) p0.length false)])), (4, (.i (((p0.length : Nat) : Int)))), (5, (.row o4 w1_2.length)), (6, (.i w0_1)), (7, (.i w1_1)), (32, (.b ((decide (w1_1 < (((v14.fKids.length : Nat) : Int)))))))] rfl (by kernel_rfl) ?_
        refine at_end rfl ?_
        refine aw_cond ((decide (w1_1 < (((v14.fKids.length : Nat) : Int))))) rfl (fun hb15 => ?_) (fun hb15 => ?_)
        · have h := ite_t hb15 h
          refine aw_skip ?_
          refine aw_seq ?_
          refine aw_block ?_
          refine aw_seq ?_
          refine aw_reg ?_
          refine at_run tt_ok 3 [(1, (.ptr [(.slc (p0.flatMap S_Cell.cs) p0.length false)])), (4, (.i (((p0.length : Nat) : Int)))), (5, (.row o4 w1_2.length)), (6, (.i w0_1)), (7, (.i w1_1)), (36, (.slc (p0.flatMap S_Cell.cs) p0.length false)), (37, (.i w0_1))] rfl (by kernel_rfl) ?_
          obtain ⟨v16, hv16, h⟩ := bind_some' h
          refine at_one rfl rfl rfl (aop_idxN (k := .i64) (g := S_Cell.cs) (l := p0) (fu := false) (j := w0_1) (v := v16) tt_ok S_Cell.len rfl rfl rfl rfl rfl hv16) ?_
          refine at_run tt_ok 7 [(1, (.ptr [(.slc (p0.flatMap S_Cell.cs) p0.length false)])), (4, (.i (((p0.length : Nat) : Int)))), (5, (.row o4 w1_2.length)), (6, (.i w0_1)), (7, (.i w1_1)), (40, (.slc (v16.fKids.map AV.i) v16.fKids.length false)), (41, (.i w1_1))] rfl (by kernel_rfl) ?_
          obtain ⟨v17, hv17, h⟩ := bind_some' h
          refine at_one rfl rfl rfl (aop_idx1 (k := .i64) (g := AV.i) (l := v16.fKids) (fu := false) (j := w1_1) (v := v17) tt_ok rfl rfl rfl rfl rfl hv17) ?_
          refine at_run tt_ok 10 [(1, (.ptr [(.slc (p0.flatMap S_Cell.cs) p0.length false)])), (4, (.i (((p0.length : Nat) : Int)))), (5, (.row o4 w1_2.length)), (6, (.i w0_1)), (7, (.i w1_1)), (8, (.i v17))] rfl (by kernel_rfl) ?_
          refine at_end rfl ?_
          refine aw_seq ?_
          refine aw_seq ?_
          refine aw_reg ?_
          refine at_run tt_ok 3 [(1, (.ptr [(.slc (p0.flatMap S_Cell.cs) p0.length false)])), (4, (.i (((p0.length : Nat) : Int)))), (5, (.row o4 w1_2.length)), (6, (.i w0_1)), (7, (.i w1_1)), (8, (.i v17)), (46, (.b ((decide (v17 < 0)))))] rfl (by kernel_rfl) ?_
          by_cases hb18 : (decide (v17 < 0)) = true
          · have h := ite_t hb18 h
            refine at_setb 46 rfl hb18 ?_
            refine at_run tt_ok 7 [(1, (.ptr [(.slc (p0.flatMap S_Cell.cs) p0.length false)])), (4, (.i (((p0.length : Nat) : Int)))), (5, (.row o4 w1_2.length)), (6, (.i w0_1)), (7, (.i w1_1)), (8, (.i v17)), (50, (.b true))] rfl (by kernel_rfl) ?_
            refine at_end rfl ?_
            refine aw_cond true rfl (fun _ => ?_) (fun h => by cases h)
            refine aw_seq ?_
            refine aw_reg ?_
            refine at_run tt_ok 2 [(2, .nil), (3, (.i 16))] rfl (by kernel_rfl) ?_
            refine at_end rfl ?_
            refine aw_ret ?_
            obtain rfl := Option.some.inj h
            exact ⟨(.tup [.nil, (.i 16)]), (.tup [(.tree (.nil)), (.i 16)]), _, (res_tmps (by kernel_rfl)), (View.tup (VW.cons (View.of_weak Weak.nil_tree) (VW.same VW.nil))), ⟨_, perm_sel _ [], List.take_sublist 0 _⟩, rfl, rfl⟩
          · have h := ite_f hb18 h
            refine at_setb 46 rfl (nott hb18) ?_
            refine at_run tt_ok 7 [(1, (.ptr [(.slc (p0.flatMap S_Cell.cs) p0.length false)])), (4, (.i (((p0.length : Nat) : Int)))), (5, (.row o4 w1_2.length)), (6, (.i w0_1)), (7, (.i w1_1)), (8, (.i v17)), (47, (.i v17)), (48, (.i w0_1)), (49, (.b ((decide (w0_1 ≤ v17))))), (50, (.b ((decide (w0_1 ≤ v17)))))] rfl (by kernel_rfl) ?_
            refine at_end rfl ?_
            refine aw_cond ((decide (w0_1 ≤ v17))) rfl (fun hb19 => ?_) (fun hb19 => ?_)
            · have h := ite_t hb19 h
              refine aw_seq ?_
              refine aw_reg ?_
              refine at_run tt_ok 2 [(2, .nil), (3, (.i 16))] rfl (by kernel_rfl) ?_
              refine at_end rfl ?_
              refine aw_ret ?_
              obtain rfl := Option.some.inj h
              exact ⟨(.tup [.nil, (.i 16)]), (.tup [(.tree (.nil)), (.i 16)]), _, (res_tmps (by kernel_rfl)), (View.tup (VW.cons (View.of_weak Weak.nil_tree) (VW.same VW.nil))), ⟨_, perm_sel _ [], List.take_sublist 0 _⟩, rfl, rfl⟩
            · have h := ite_f (by rw [hb19]; simp) h
              refine aw_skip ?_
              refine aw_reg ?_
              refine at_run tt_ok 2 [(1, (.ptr [(.slc (p0.flatMap S_Cell.cs) p0.length false)])), (4, (.i (((p0.length : Nat) : Int)))), (5, (.row o4 w1_2.length)), (6, (.i w0_1)), (7, (.i w1_1)), (47, (.i v17)), (48, (.i w0_1)), (49, (.b ((decide (w0_1 ≤ v17))))), (51, (.row o4 w1_2.length)), (52, (.i v17))] rfl (by kernel_rfl) ?_
              obtain ⟨v20, hv20, h⟩ := bind_some' h
              refine at_one rfl rfl rfl (aop_rowIdx1 (id := o4) (kd := .i64) (l := w1_2) (j := v17) (v := v20) tt_ok hv20 rfl rfl rfl rfl rfl) ?_
              refine at_one rfl rfl rfl (aop_rowLoad1 (g := AV.i) (l := w1_2) (k := v17) (v := v20) tt_ok hv20 rfl rfl rfl (j := 0) rfl) ?_
              refine at_run tt_ok 5 [(1, (.ptr [(.slc (p0.flatMap S_Cell.cs) p0.length false)])), (4, (.i (((p0.length : Nat) : Int)))), (5, (.row o4 w1_2.length)), (6, (.i w0_1)), (7, (.i w1_1)), (47, (.i v17)), (48, (.i w0_1)), (49, (.b ((decide (w0_1 ≤ v17))))), (51, (.row o4 w1_2.length)), (52, (.i v17)), (55, (.i ((IntKind.i64.wrap (v20 + 1)))))] rfl (by kernel_rfl) ?_
              obtain ⟨v21, hv21, h⟩ := bind_some' h
              refine at_one rfl rfl rfl (aop_rowIdx1 (id := o4) (kd := .i64) (l := w1_2) (j := v17) (v := v21) tt_ok hv21 rfl rfl rfl rfl rfl) ?_
              refine at_one rfl rfl rfl (aop_rowStore1 (g := AV.i) (l := w1_2) (k := v17) (v := v21) (u := (IntKind.i64.wrap (v20 + 1))) (y' := (.i ((IntKind.i64.wrap (v20 + 1))))) tt_ok hv21 rfl rfl rfl rfl (View.refl _) rfl (j := 0) rfl) ?_
              refine at_end rfl ?_
              refine aw_normal [(1, (.ptr [(.slc (p0.flatMap S_Cell.cs) p0.length false)])), (4, (.i (((p0.length : Nat) : Int)))), (5, (.row o4 ((w1_2.set v17.toNat ((IntKind.i64.wrap (v20 + 1))))).length)), (6, (.i w0_1)), (7, (.i w1_1)), (47, (.i v17)), (48, (.i w0_1)), (49, (.b ((decide (w0_1 ≤ v17)))))] (s' := [(o4, .row 3 1 (((w1_2.set v17.toNat ((IntKind.i64.wrap (v20 + 1))))).map AV.i) 0)]) (by (try simp only [List.length_set]); kernel_rfl) (by first | rfl | (simp only [List.length_set]; rfl)) ?_
              refine aw_reg ?_
              refine at_run tt_ok 3 [(1, (.ptr [(.slc (p0.flatMap S_Cell.cs) p0.length false)])), (4, (.i (((p0.length : Nat) : Int)))), (5, (.row o4 ((w1_2.set v17.toNat ((IntKind.i64.wrap (v20 + 1))))).length)), (6, (.i w0_1)), (7, (.i ((IntKind.i64.wrap (w1_1 + 1))))), (47, (.i v17)), (48, (.i w0_1)), (49, (.b ((decide (w0_1 ≤ v17)))))] rfl (by kernel_rfl) ?_
              refine at_end rfl ?_
              exact ⟨k13, ((IntKind.i64.wrap (w1_1 + 1)), (w1_2.set v17.toNat ((IntKind.i64.wrap (v20 + 1))))), [0], [], by omega, ⟨by omega, h⟩, by kernel_rfl, rfl⟩
        · have h := ite_f (by rw [hb15]; simp) h
          refine aw_exit ?_
          refine aw_reg ?_
          refine at_run tt_ok 3 [(1, (.ptr [(.slc (p0.flatMap S_Cell.cs) p0.length false)])), (4, (.i (((p0.length : Nat) : Int)))), (5, (.row o4 w1_2.length)), (6, (.i ((IntKind.i64.wrap (w0_1 + 1)))))] rfl (by kernel_rfl) ?_
          refine at_end rfl ?_
          exact ⟨k13, ((IntKind.i64.wrap (w0_1 + 1)), w1_2), [0], [], by omega, ⟨by omega, h⟩, by kernel_rfl, rfl⟩
      · have h := ite_f (by rw [hb9]; simp) h
        refine aw_exit ?_
        refine aw_seq ?_
        refine aw_seq ?_
        refine aw_reg ?_
        refine at_run tt_ok 1 [(1, (.ptr [(.slc (p0.flatMap S_Cell.cs) p0.length false)])), (4, (.i (((p0.length : Nat) : Int)))), (5, (.row o4 w0_2.length)), (9, (.i 0))] rfl (by kernel_rfl) ?_
        refine at_end rfl ?_
        refine aw_block ?_
        refine aw_loop_ind' (X := Int) (fun k' x => k' ≤ k8 ∧ ref04_Open_l2 k' p0 w0_2 x = some r) (fun x => [(1, (.ptr [(.slc (p0.flatMap S_Cell.cs) p0.length false)])), (4, (.i (((p0.length : Nat) : Int)))), (5, (.row o4 w0_2.length)), (9, (.i x))]) (fun x => [(o4, .row 3 1 (w0_2.map AV.i) 0)]) (fun x hx => by cases hx.2) ?_ k8 0 ⟨Nat.le_refl _, h⟩ (by kernel_rfl) rfl
        clear h
        rintro k25 w2_1 ⟨hlek25, h⟩
        refine aw_seq ?_
        refine aw_seq ?_
        refine aw_reg ?_
        refine at_run tt_ok 4 [(1, (.ptr [(.slc (p0.flatMap S_Cell.cs) p0.length false)])), (4, (.i (((p0.length : Nat) : Int)))), (5, (.row o4 w0_2.length)), (9, (.i w2_1)), (60, (.b ((decide (w2_1 < ((IntKind.i64.wrap ((((p0.length : Nat) : Int)) - 1))))))))] rfl (by kernel_rfl) ?_
        refine at_end rfl ?_
        refine aw_cond ((decide (w2_1 < ((IntKind.i64.wrap ((((p0.length : Nat) : Int)) - 1)))))) rfl (fun hb26 => ?_) (fun hb26 => ?_)
        · have h := ite_t hb26 h
          refine aw_skip ?_
          refine aw_seq ?_
          refine aw_block ?_
          refine aw_seq ?_
          refine aw_reg ?_
          refine at_run tt_ok 2 [(1, (.ptr [(.slc (p0.flatMap S_Cell.cs) p0.length false)])), (4, (.i (((p0.length : Nat) : Int)))), (5, (.row o4 w0_2.length)), (9, (.i w2_1)), (63, (.row o4 w0_2.length)), (64, (.i w2_1))] rfl (by kernel_rfl) ?_
          obtain ⟨v27, hv27, h⟩ := bind_some' h
          refine at_one rfl rfl rfl (aop_rowIdx1 (id := o4) (kd := .i64) (l := w0_2) (j := w2_1) (v := v27) tt_ok hv27 rfl rfl rfl rfl rfl) ?_
          refine at_one rfl rfl rfl (aop_rowLoad1 (g := AV.i) (l := w0_2) (k := w2_1) (v := v27) tt_ok hv27 rfl rfl rfl (j := 0) rfl) ?_
          refine at_run tt_ok 5 [(1, (.ptr [(.slc (p0.flatMap S_Cell.cs) p0.length false)])), (4, (.i (((p0.length : Nat) : Int)))), (5, (.row o4 w0_2.length)), (9, (.i w2_1)), (67, (.b ((!decide (v27 = 1)))))] rfl (by kernel_rfl) ?_
          refine at_end rfl ?_
          refine aw_cond ((!decide (v27 = 1))) rfl (fun hb28 => ?_) (fun hb28 => ?_)
          · have h := ite_t hb28 h
            refine aw_seq ?_
            refine aw_reg ?_
            refine at_run tt_ok 2 [(2, .nil), (3, (.i 16))] rfl (by kernel_rfl) ?_
            refine at_end rfl ?_
            refine aw_ret ?_
            obtain rfl := Option.some.inj h
            exact ⟨(.tup [.nil, (.i 16)]), (.tup [(.tree (.nil)), (.i 16)]), _, (res_tmps (by kernel_rfl)), (View.tup (VW.cons (View.of_weak Weak.nil_tree) (VW.same VW.nil))), ⟨_, perm_sel _ [], List.take_sublist 0 _⟩, rfl, rfl⟩
          · have h := ite_f (by rw [hb28]; simp) h
            refine aw_skip ?_
            refine aw_reg ?_
            refine at_run tt_ok 3 [(1, (.ptr [(.slc (p0.flatMap S_Cell.cs) p0.length false)])), (4, (.i (((p0.length : Nat) : Int)))), (5, (.row o4 w0_2.length)), (9, (.i ((IntKind.i64.wrap (w2_1 + 1)))))] rfl (by kernel_rfl) ?_
            refine at_end rfl ?_
            exact ⟨k25, (IntKind.i64.wrap (w2_1 + 1)), [0], [], by omega, ⟨by omega, h⟩, by kernel_rfl, rfl⟩
        · have h := ite_f (by rw [hb26]; simp) h
          refine aw_exit ?_
          refine aw_seq ?_
          refine aw_reg ?_
          refine at_run tt_ok 3 [(68, (.agg [(.slc (p0.flatMap S_Cell.cs) p0.length false)])), (70, (.i ((IntKind.i64.wrap ((((p0.length : Nat) : Int)) - 1)))))] rfl (by kernel_rfl) ?_
          obtain ⟨v29, hc30, h⟩ := bind_some' h
          refine at_op rfl rfl rfl (aop_call (first := []) (caps := []) (xs := [(.agg [(.slc (p0.flatMap S_Cell.cs) p0.length false)]), (.i ((IntKind.i64.wrap ((((p0.length : Nat) : Int)) - 1))))]) (args' := [(.agg [(.slc (p0.flatMap S_Cell.cs) p0.length false)]), (.i ((IntKind.i64.wrap ((((p0.length : Nat) : Int)) - 1))))]) (sm := []) (r := [(o4, .row 3 1 (w0_2.map AV.i) 0)]) rfl (by kernel_rfl) Try.func31 rfl rfl (ref04_grow_ok k25 p0 ((IntKind.i64.wrap ((((p0.length : Nat) : Int)) - 1))) _ hc30) (by kernel_rfl) (VW.refl _) (permTo [] (by kernel_rfl))) ?_
          rintro _ _ ⟨_, ⟨rfl, rfl⟩, rfl⟩
          refine at_run tt_ok 6 [(2, (.tree v29)), (3, (.i 0))] rfl (by kernel_rfl) ?_
          refine at_end rfl ?_
          refine aw_ret ?_
          obtain rfl := Option.some.inj h
          exact ⟨(.tup [(.tree v29), (.i 0)]), (.tup [(.tree v29), (.i 0)]), _, (res_tmps (by kernel_rfl)), (View.refl _), ⟨_, perm_sel _ [], List.take_sublist 0 _⟩, rfl, rfl⟩
def ref04_Same_S (K : Nat) : Prop := ∀ (p0 : Tr) (p1 : Tr) (r : Bool), ref04_Same K p0 p1 = some r → ACalls Try.prog 12 [(.tree p0), (.tree p1)] [] (fun av s => av = (.b r) ∧ s = [])
theorem ref04_Same_step (K : Nat) (IH : ∀ j, j < K → ref04_Same_S j) : ref04_Same_S K := by
  intro p0 p1 r h
  cases K with
  | zero => cases h
  | succ k0 =>
  refine acalls_enter Try.func12 rfl rfl ?_
  refine aw_seq ?_
  refine aw_normal [(0, (.tree p0)), (1, (.tree p1))] (s' := []) (by kernel_rfl) rfl ?_
  refine aw_reg ?_
  refine at_run tt_ok 1 [(0, (.tree p0)), (1, (.tree p1))] rfl (by kernel_rfl) ?_
  refine at_end rfl ?_
  refine aw_seq ?_
  refine aw_seq ?_
  refine aw_reg ?_
  refine at_run tt_ok 1 [(0, (.tree p0)), (1, (.tree p1)), (6, (.tree p0))] rfl (by kernel_rfl) ?_
  cases p0 with
  | nil =>
    refine at_run tt_ok 6 [(0, (.tree (.nil))), (1, (.tree p1)), (11, (.b true))] rfl (by kernel_rfl) ?_
    refine at_end rfl ?_
    refine aw_cond true rfl (fun _ => ?_) (fun h => by cases h)
    refine aw_seq ?_
    refine aw_reg ?_
    refine at_run tt_ok 4 [(14, (.b true)), (15, (.tree p1))] rfl (by kernel_rfl) ?_
    cases p1 with
    | nil =>
      refine at_run tt_ok 7 [(4, (.b true))] rfl (by kernel_rfl) ?_
      refine at_end rfl ?_
      refine aw_ret ?_
      obtain rfl := Option.some.inj h
      exact ⟨(.b true), (.b true), _, (res_tmps (by kernel_rfl)), (View.refl _), ⟨_, perm_sel _ [], List.take_sublist 0 _⟩, rfl, rfl⟩
    | node n1 n2 n3 n4 n5 =>
      refine at_run tt_ok 7 [(4, (.b false))] rfl (by kernel_rfl) ?_
      refine at_end rfl ?_
      refine aw_ret ?_
      obtain rfl := Option.some.inj h
      exact ⟨(.b false), (.b false), _, (res_tmps (by kernel_rfl)), (View.refl _), ⟨_, perm_sel _ [], List.take_sublist 0 _⟩, rfl, rfl⟩
  | node n6 n7 n8 n9 n10 =>
    refine at_run tt_ok 4 [(0, (.tree ((.node n6 n7 n8 n9 n10)))), (1, (.tree p1)), (8, (.b false)), (9, (.tree p1))] rfl (by kernel_rfl) ?_
    cases p1 with
    | nil =>
      refine at_run tt_ok 6 [(0, (.tree ((.node n6 n7 n8 n9 n10)))), (1, (.tree (.nil))), (11, (.b true))] rfl (by kernel_rfl) ?_
      refine at_end rfl ?_
      refine aw_cond true rfl (fun _ => ?_) (fun h => by cases h)
      refine aw_seq ?_
      refine aw_reg ?_
      refine at_run tt_ok 7 [(4, (.b false))] rfl (by kernel_rfl) ?_
      refine at_end rfl ?_
      refine aw_ret ?_
      obtain rfl := Option.some.inj h
      exact ⟨(.b false), (.b false), _, (res_tmps (by kernel_rfl)), (View.refl _), ⟨_, perm_sel _ [], List.take_sublist 0 _⟩, rfl, rfl⟩
    | node n11 n12 n13 n14 n15 =>
      refine at_run tt_ok 6 [(0, (.tree ((.node n6 n7 n8 n9 n10)))), (1, (.tree ((.node n11 n12 n13 n14 n15)))), (11, (.b false))] rfl (by kernel_rfl) ?_
      refine at_end rfl ?_
      refine aw_cond false rfl (fun h => by cases h) (fun _ => ?_)
      refine aw_skip ?_
      refine aw_seq ?_
      refine aw_seq ?_
      refine aw_draw mixed (by kernel_rfl) ?_
      refine j_run tt_ok [0, 1, 2, 3, 4, 5, 6, 7, 8, 9] [9, 8, 7, 6, 5, 4, 3, 2, 1, 0] (by kernel_rfl) ?_
      by_cases hb16 : (!decide (n6 = n11)) = true
      · have h := ite_t hb16 h
        refine j_setb 27 (by kernel_rfl) hb16 ?_
        refine j_run tt_ok [10, 11, 12, 13, 14, 15, 16, 17, 18, 19, 20, 21, 22, 23, 24, 25, 26, 27, 28, 29, 30, 31, 32, 33, 34, 35, 36, 37, 38, 39, 40, 41, 42, 43, 44, 45, 46, 47, 48, 49, 50, 51, 52, 53, 54] [54, 53, 52, 51, 50, 49, 48, 47, 46, 45, 44, 43, 42, 41, 40, 39, 38, 37, 36, 35, 34, 33, 32, 31, 30, 29, 28, 27, 26, 25, 24, 23, 22, 21, 20, 19, 18, 17, 16, 15, 14, 13, 12, 11, 10, 9, 8, 7, 6, 5, 4, 3, 2, 1, 0] (by kernel_rfl) ?_
        refine .done (by kernel_rfl) ?_
        refine aw_normal [(0, (.tree ((.node n6 n7 n8 n9 n10)))), (1, (.tree ((.node n11 n12 n13 n14 n15)))), (72, (.b true))] (s' := []) (by kernel_rfl) rfl ?_
        refine aw_cond true rfl (fun _ => ?_) (fun h => by cases h)
        refine aw_seq ?_
        refine aw_reg ?_
        refine at_run tt_ok 1 [(4, (.b false))] rfl (by kernel_rfl) ?_
        refine at_end rfl ?_
        refine aw_ret ?_
        obtain rfl := Option.some.inj h
        exact ⟨(.b false), (.b false), _, (res_tmps (by kernel_rfl)), (View.refl _), ⟨_, perm_sel _ [], List.take_sublist 0 _⟩, rfl, rfl⟩
      · have h := ite_f hb16 h
        refine j_setb 27 (by kernel_rfl) (nott hb16) ?_
        refine j_run tt_ok [10, 11, 12, 13, 14, 15, 16, 17, 18, 19, 20] [20, 19, 18, 17, 16, 15, 14, 13, 12, 11, 10, 9, 8, 7, 6, 5, 4, 3, 2, 1, 0] (by kernel_rfl) ?_
        by_cases hb17 : (!decide (n7 = n12)) = true
        · have h := ite_t hb17 h
          refine j_setb 38 (by kernel_rfl) hb17 ?_
          refine j_run tt_ok [21, 22, 23, 24, 25, 26, 27, 28, 29, 30, 31, 32, 33, 34, 35, 36, 37, 38, 39, 40, 41, 42, 43, 44, 45, 46, 47, 48, 49, 50, 51, 52, 53, 54] [54, 53, 52, 51, 50, 49, 48, 47, 46, 45, 44, 43, 42, 41, 40, 39, 38, 37, 36, 35, 34, 33, 32, 31, 30, 29, 28, 27, 26, 25, 24, 23, 22, 21, 20, 19, 18, 17, 16, 15, 14, 13, 12, 11, 10, 9, 8, 7, 6, 5, 4, 3, 2, 1, 0] (by kernel_rfl) ?_
          refine .done (by kernel_rfl) ?_
          refine aw_normal [(0, (.tree ((.node n6 n7 n8 n9 n10)))), (1, (.tree ((.node n11 n12 n13 n14 n15)))), (72, (.b true))] (s' := []) (by kernel_rfl) rfl ?_
          refine aw_cond true rfl (fun _ => ?_) (fun h => by cases h)
          refine aw_seq ?_
          refine aw_reg ?_
          refine at_run tt_ok 1 [(4, (.b false))] rfl (by kernel_rfl) ?_
          refine at_end rfl ?_
          refine aw_ret ?_
          obtain rfl := Option.some.inj h
          exact ⟨(.b false), (.b false), _, (res_tmps (by kernel_rfl)), (View.refl _), ⟨_, perm_sel _ [], List.take_sublist 0 _⟩, rfl, rfl⟩
        · have h := ite_f hb17 h
          refine j_setb 38 (by kernel_rfl) (nott hb17) ?_
          refine j_run tt_ok [21, 22, 23, 24, 25, 26, 27, 28, 29, 30, 31] [31, 30, 29, 28, 27, 26, 25, 24, 23, 22, 21, 20, 19, 18, 17, 16, 15, 14, 13, 12, 11, 10, 9, 8, 7, 6, 5, 4, 3, 2, 1, 0] (by kernel_rfl) ?_
          by_cases hb18 : (!decide (n8 = n13)) = true
          · have h := ite_t hb18 h
            refine j_setb 49 (by kernel_rfl) hb18 ?_
            refine j_run tt_ok [32, 33, 34, 35, 36, 37, 38, 39, 40, 41, 42, 43, 44, 45, 46, 47, 48, 49, 50, 51, 52, 53, 54] [54, 53, 52, 51, 50, 49, 48, 47, 46, 45, 44, 43, 42, 41, 40, 39, 38, 37, 36, 35, 34, 33, 32, 31, 30, 29, 28, 27, 26, 25, 24, 23, 22, 21, 20, 19, 18, 17, 16, 15, 14, 13, 12, 11, 10, 9, 8, 7, 6, 5, 4, 3, 2, 1, 0] (by kernel_rfl) ?_
            refine .done (by kernel_rfl) ?_
            refine aw_normal [(0, (.tree ((.node n6 n7 n8 n9 n10)))), (1, (.tree ((.node n11 n12 n13 n14 n15)))), (72, (.b true))] (s' := []) (by kernel_rfl) rfl ?_
            refine aw_cond true rfl (fun _ => ?_) (fun h => by cases h)
            refine aw_seq ?_
            refine aw_reg ?_
            refine at_run tt_ok 1 [(4, (.b false))] rfl (by kernel_rfl) ?_
            refine at_end rfl ?_
            refine aw_ret ?_
            obtain rfl := Option.some.inj h
            exact ⟨(.b false), (.b false), _, (res_tmps (by kernel_rfl)), (View.refl _), ⟨_, perm_sel _ [], List.take_sublist 0 _⟩, rfl, rfl⟩
          · have h := ite_f hb18 h
            refine j_setb 49 (by kernel_rfl) (nott hb18) ?_
            refine j_run tt_ok [32, 33, 34, 35, 36, 37, 38, 39, 40, 41, 42] [42, 41, 40, 39, 38, 37, 36, 35, 34, 33, 32, 31, 30, 29, 28, 27, 26, 25, 24, 23, 22, 21, 20, 19, 18, 17, 16, 15, 14, 13, 12, 11, 10, 9, 8, 7, 6, 5, 4, 3, 2, 1, 0] (by kernel_rfl) ?_
            by_cases hb19 : (!decide (n9 = n14)) = true
            · have h := ite_t hb19 h
              refine j_setb 60 (by kernel_rfl) hb19 ?_
              refine j_run tt_ok [43, 44, 45, 46, 47, 48, 49, 50, 51, 52, 53, 54] [54, 53, 52, 51, 50, 49, 48, 47, 46, 45, 44, 43, 42, 41, 40, 39, 38, 37, 36, 35, 34, 33, 32, 31, 30, 29, 28, 27, 26, 25, 24, 23, 22, 21, 20, 19, 18, 17, 16, 15, 14, 13, 12, 11, 10, 9, 8, 7, 6, 5, 4, 3, 2, 1, 0] (by kernel_rfl) ?_
              refine .done (by kernel_rfl) ?_
              refine aw_normal [(0, (.tree ((.node n6 n7 n8 n9 n10)))), (1, (.tree ((.node n11 n12 n13 n14 n15)))), (72, (.b true))] (s' := []) (by kernel_rfl) rfl ?_
              refine aw_cond true rfl (fun _ => ?_) (fun h => by cases h)
              refine aw_seq ?_
              refine aw_reg ?_
              refine at_run tt_ok 1 [(4, (.b false))] rfl (by kernel_rfl) ?_
              refine at_end rfl ?_
              refine aw_ret ?_
              obtain rfl := Option.some.inj h
              exact ⟨(.b false), (.b false), _, (res_tmps (by kernel_rfl)), (View.refl _), ⟨_, perm_sel _ [], List.take_sublist 0 _⟩, rfl, rfl⟩
            · have h := ite_f hb19 h
              refine j_setb 60 (by kernel_rfl) (nott hb19) ?_
              refine j_run tt_ok [43, 44, 45, 46, 47, 48, 49, 50, 51, 52, 53, 54] [54, 53, 52, 51, 50, 49, 48, 47, 46, 45, 44, 43, 42, 41, 40, 39, 38, 37, 36, 35, 34, 33, 32, 31, 30, 29, 28, 27, 26, 25, 24, 23, 22, 21, 20, 19, 18, 17, 16, 15, 14, 13, 12, 11, 10, 9, 8, 7, 6, 5, 4, 3, 2, 1, 0] (by kernel_rfl) ?_
              refine .done (by kernel_rfl) ?_
              refine aw_normal [(0, (.tree ((.node n6 n7 n8 n9 n10)))), (1, (.tree ((.node n11 n12 n13 n14 n15)))), (72, (.b ((!decide ((((n10.length : Nat) : Int)) = (((n15.length : Nat) : Int)))))))] (s' := []) (by kernel_rfl) rfl ?_
              refine aw_cond ((!decide ((((n10.length : Nat) : Int)) = (((n15.length : Nat) : Int))))) rfl (fun hb20 => ?_) (fun hb20 => ?_)
              · have h := ite_t hb20 h
                refine aw_seq ?_
                refine aw_reg ?_
                refine at_run tt_ok 1 [(4, (.b false))] rfl (by kernel_rfl) ?_
                refine at_end rfl ?_
                refine aw_ret ?_
                obtain rfl := Option.some.inj h
                exact ⟨(.b false), (.b false), _, (res_tmps (by kernel_rfl)), (View.refl _), ⟨_, perm_sel _ [], List.take_sublist 0 _⟩, rfl, rfl⟩
              · have h := ite_f (by rw [hb20]; simp) h
                refine aw_skip ?_
                refine aw_seq ?_
                refine aw_seq ?_
                refine aw_reg ?_
                refine at_run tt_ok 1 [(0, (.tree ((.node n6 n7 n8 n9 n10)))), (1, (.tree ((.node n11 n12 n13 n14 n15)))), (5, (.i 0))] rfl (by kernel_rfl) ?_
                refine at_end rfl ?_
                refine aw_block ?_
                refine aw_loop_ind' (X := Int) (fun k' x => k' ≤ k0 ∧ ref04_Same_l0 k' n6 n7 n8 n9 n10 n11 n12 n13 n14 n15 x = some r) (fun x => [(0, (.tree ((.node n6 n7 n8 n9 n10)))), (1, (.tree ((.node n11 n12 n13 n14 n15)))), (5, (.i x))]) (fun x => []) (fun x hx => by cases hx.2) ?_ k0 0 ⟨Nat.le_refl _, h⟩ (by kernel_rfl) rfl
                clear h
                rintro k23 w0_1 ⟨hlek23, h⟩
                refine aw_seq ?_
                refine aw_seq ?_
                refine aw_reg ?_
                refine at_run tt_ok 7 [(0, (.tree ((.node n6 n7 n8 n9 n10)))), (1, (.tree ((.node n11 n12 n13 n14 n15)))), (5, (.i w0_1)), (79, (.b ((decide (w0_1 < (((n10.length : Nat) : Int)))))))] rfl (by kernel_rfl) ?_
                refine at_end rfl ?_
                refine aw_cond ((decide (w0_1 < (((n10.length : Nat) : Int))))) rfl (fun hb24 => ?_) (fun hb24 => ?_)
                · have h := ite_t hb24 h
                  refine aw_skip ?_
                  refine aw_seq ?_
                  refine aw_block ?_
                  refine aw_seq ?_
                  refine aw_draw mixed (by kernel_rfl) ?_
                  refine j_run tt_ok [0, 1, 2, 3, 4, 7, 8, 9, 10, 11] [11, 10, 9, 8, 7, 4, 3, 2, 1, 0] (by kernel_rfl) ?_
                  obtain ⟨v25, hv25, h⟩ := bind_some' h
                  refine j_light0 5 rfl (by kernel_rfl) rfl (by kernel_rfl) (fun s => (aop_idx1 (k := .i64) (g := AV.tree) (l := n10) (fu := false) (j := w0_1) (v := v25) tt_ok rfl rfl rfl (by kernel_rfl) (by kernel_rfl) hv25)) ?_
                  refine j_run tt_ok [6] [6, 5, 11, 10, 9, 8, 7, 4, 3, 2, 1, 0] (by kernel_rfl) ?_
                  obtain ⟨v26, hv26, h⟩ := bind_some' h
                  refine j_light0 12 rfl (by kernel_rfl) rfl (by kernel_rfl) (fun s => (aop_idx1 (k := .i64) (g := AV.tree) (l := n15) (fu := false) (j := w0_1) (v := v26) tt_ok rfl rfl rfl (by kernel_rfl) (by kernel_rfl) hv26)) ?_
                  refine j_run tt_ok [13] [13, 12, 6, 5, 11, 10, 9, 8, 7, 4, 3, 2, 1, 0] (by kernel_rfl) ?_
                  obtain ⟨v29, hc30, h⟩ := bind_some' h
                  refine .heavy 14 _ _ rfl (by kernel_rfl) rfl (by kernel_rfl) (aop_call (first := []) (caps := []) (xs := [(.tree v25), (.tree v26)]) (args' := [(.tree v25), (.tree v26)]) (sm := []) (r := []) rfl (by kernel_rfl) Try.func12 rfl rfl ((IH k23 (by omega)) v25 v26 _ hc30) (by kernel_rfl) (VW.refl _) (permTo [] (by kernel_rfl))) ?_ ?_
                  · rintro _ _ ⟨_, ⟨rfl, rfl⟩, rfl⟩ l hl
                    cases hl
                  rintro _ _ ⟨_, ⟨rfl, rfl⟩, rfl⟩
                  refine j_run tt_ok [15] [15, 14, 13, 12, 6, 5, 11, 10, 9, 8, 7, 4, 3, 2, 1, 0] (by kernel_rfl) ?_
                  refine .done (by kernel_rfl) ?_
                  refine aw_normal [(0, (.tree ((.node n6 n7 n8 n9 n10)))), (1, (.tree ((.node n11 n12 n13 n14 n15)))), (5, (.i w0_1)), (97, (.b ((!v29))))] (s' := []) (by kernel_rfl) rfl ?_
                  refine aw_cond ((!v29)) rfl (fun hb31 => ?_) (fun hb31 => ?_)
                  · have h := ite_t hb31 h
                    refine aw_seq ?_
                    refine aw_reg ?_
                    refine at_run tt_ok 1 [(4, (.b false))] rfl (by kernel_rfl) ?_
                    refine at_end rfl ?_
                    refine aw_ret ?_
                    obtain rfl := Option.some.inj h
                    exact ⟨(.b false), (.b false), _, (res_tmps (by kernel_rfl)), (View.refl _), ⟨_, perm_sel _ [], List.take_sublist 0 _⟩, rfl, rfl⟩
                  · have h := ite_f (by rw [hb31]; simp) h
                    refine aw_skip ?_
                    refine aw_reg ?_
                    refine at_run tt_ok 3 [(0, (.tree ((.node n6 n7 n8 n9 n10)))), (1, (.tree ((.node n11 n12 n13 n14 n15)))), (5, (.i ((IntKind.i64.wrap (w0_1 + 1)))))] rfl (by kernel_rfl) ?_
                    refine at_end rfl ?_
                    exact ⟨k23, (IntKind.i64.wrap (w0_1 + 1)), [], [], by omega, ⟨by omega, h⟩, by kernel_rfl, rfl⟩
                · have h := ite_f (by rw [hb24]; simp) h
                  refine aw_exit ?_
                  refine aw_seq ?_
                  refine aw_reg ?_
                  refine at_run tt_ok 1 [(4, (.b true))] rfl (by kernel_rfl) ?_
                  refine at_end rfl ?_
                  refine aw_ret ?_
                  obtain rfl := Option.some.inj h
                  exact ⟨(.b true), (.b true), _, (res_tmps (by kernel_rfl)), (View.refl _), ⟨_, perm_sel _ [], List.take_sublist 0 _⟩, rfl, rfl⟩
theorem ref04_Same_all (K : Nat) : ref04_Same_S K := by
  induction K using Nat.strongRecOn with
  | _ K IH => exact ref04_Same_step K IH
theorem ref04_Same_ok (K : Nat) : ∀ (p0 : Tr) (p1 : Tr) (r : Bool), ref04_Same K p0 p1 = some r → ACalls Try.prog 12 [(.tree p0), (.tree p1)] [] (fun av s => av = (.b r) ∧ s = []) := (ref04_Same_all K)
def ref04_Size_S (K : Nat) : Prop := ∀ (p0 : Tr) (r : Int), ref04_Size K p0 = some r → ACalls Try.prog 14 [(.tree p0)] [] (fun av s => av = (.i r) ∧ s = [])
theorem ref04_Size_step (K : Nat) (IH : ∀ j, j < K → ref04_Size_S j) : ref04_Size_S K := by
  intro p0 r h
  cases K with
  | zero => cases h
  | succ k0 =>
  refine acalls_enter Try.func14 rfl rfl ?_
  refine aw_seq ?_
  refine aw_normal [(0, (.tree p0))] (s' := []) (by kernel_rfl) rfl ?_
  refine aw_reg ?_
  refine at_run tt_ok 1 [(0, (.tree p0))] rfl (by kernel_rfl) ?_
  refine at_end rfl ?_
  refine aw_seq ?_
  refine aw_seq ?_
  refine aw_reg ?_
  refine at_run tt_ok 1 [(0, (.tree p0)), (5, (.tree p0))] rfl (by kernel_rfl) ?_
  cases p0 with
  | nil =>
    refine at_run tt_ok 2 [(0, (.tree (.nil))), (6, (.b true))] rfl (by kernel_rfl) ?_
    refine at_end rfl ?_
    refine aw_cond true rfl (fun _ => ?_) (fun h => by cases h)
    refine aw_seq ?_
    refine aw_reg ?_
    refine at_run tt_ok 1 [(2, (.i 0))] rfl (by kernel_rfl) ?_
    refine at_end rfl ?_
    refine aw_ret ?_
    obtain rfl := Option.some.inj h
    exact ⟨(.i 0), (.i 0), _, (res_tmps (by kernel_rfl)), (View.refl _), ⟨_, perm_sel _ [], List.take_sublist 0 _⟩, rfl, rfl⟩
  | node n1 n2 n3 n4 n5 =>
    refine at_run tt_ok 2 [(0, (.tree ((.node n1 n2 n3 n4 n5)))), (6, (.b false))] rfl (by kernel_rfl) ?_
    refine at_end rfl ?_
    refine aw_cond false rfl (fun h => by cases h) (fun _ => ?_)
    refine aw_skip ?_
    refine aw_seq ?_
    refine aw_reg ?_
    refine at_run tt_ok 1 [(0, (.tree ((.node n1 n2 n3 n4 n5)))), (3, (.i 1))] rfl (by kernel_rfl) ?_
    refine at_end rfl ?_
    refine aw_seq ?_
    refine aw_seq ?_
    refine aw_reg ?_
    refine at_run tt_ok 1 [(0, (.tree ((.node n1 n2 n3 n4 n5)))), (3, (.i 1)), (4, (.i 0))] rfl (by kernel_rfl) ?_
    refine at_end rfl ?_
    refine aw_block ?_
    refine aw_loop_ind' (X := Int × Int) (fun k' x => k' ≤ k0 ∧ ref04_Size_l0 k' n1 n2 n3 n4 n5 x.1 x.2 = some r) (fun x => [(0, (.tree ((.node n1 n2 n3 n4 n5)))), (3, (.i x.1)), (4, (.i x.2))]) (fun x => []) (fun x hx => by cases hx.2) ?_ k0 (1, 0) ⟨Nat.le_refl _, h⟩ (by kernel_rfl) rfl
    clear h
    rintro k9 ⟨w0_1, w0_2⟩ ⟨hlek9, h⟩
    refine aw_seq ?_
    refine aw_seq ?_
    refine aw_reg ?_
    refine at_run tt_ok 7 [(0, (.tree ((.node n1 n2 n3 n4 n5)))), (3, (.i w0_1)), (4, (.i w0_2)), (13, (.b ((decide (w0_2 < (((n5.length : Nat) : Int)))))))] rfl (by kernel_rfl) ?_
    refine at_end rfl ?_
    refine aw_cond ((decide (w0_2 < (((n5.length : Nat) : Int))))) rfl (fun hb10 => ?_) (fun hb10 => ?_)
    · have h := ite_t hb10 h
      refine aw_skip ?_
      refine aw_seq ?_
      refine aw_block ?_
      refine aw_reg ?_
      refine at_run tt_ok 6 [(0, (.tree ((.node n1 n2 n3 n4 n5)))), (4, (.i w0_2)), (16, (.i w0_1)), (20, (.slc (n5.map AV.tree) n5.length false)), (21, (.i w0_2))] rfl (by kernel_rfl) ?_
      obtain ⟨v11, hv11, h⟩ := bind_some' h
      refine at_one rfl rfl rfl (aop_idx1 (k := .i64) (g := AV.tree) (l := n5) (fu := false) (j := w0_2) (v := v11) tt_ok rfl rfl rfl rfl rfl hv11) ?_
      refine at_run tt_ok 8 [(0, (.tree ((.node n1 n2 n3 n4 n5)))), (4, (.i w0_2)), (16, (.i w0_1)), (23, (.tree v11))] rfl (by kernel_rfl) ?_
      obtain ⟨v12, hc13, h⟩ := bind_some' h
      refine at_op rfl rfl rfl (aop_call (first := []) (caps := []) (xs := [(.tree v11)]) (args' := [(.tree v11)]) (sm := []) (r := []) rfl (by kernel_rfl) Try.func14 rfl rfl ((IH k9 (by omega)) v11 _ hc13) (by kernel_rfl) (VW.refl _) (permTo [] (by kernel_rfl))) ?_
      rintro _ _ ⟨_, ⟨rfl, rfl⟩, rfl⟩
      refine at_run tt_ok 11 [(0, (.tree ((.node n1 n2 n3 n4 n5)))), (3, (.i ((IntKind.i64.wrap (w0_1 + v12))))), (4, (.i w0_2))] rfl (by kernel_rfl) ?_
      refine at_end rfl ?_
      refine aw_reg ?_
      refine at_run tt_ok 3 [(0, (.tree ((.node n1 n2 n3 n4 n5)))), (3, (.i ((IntKind.i64.wrap (w0_1 + v12))))), (4, (.i ((IntKind.i64.wrap (w0_2 + 1)))))] rfl (by kernel_rfl) ?_
      refine at_end rfl ?_
      exact ⟨k9, ((IntKind.i64.wrap (w0_1 + v12)), (IntKind.i64.wrap (w0_2 + 1))), [], [], by omega, ⟨by omega, h⟩, by kernel_rfl, rfl⟩
    · have h := ite_f (by rw [hb10]; simp) h
      refine aw_exit ?_
      refine aw_seq ?_
      refine aw_reg ?_
      refine at_run tt_ok 2 [(2, (.i w0_1))] rfl (by kernel_rfl) ?_
      refine at_end rfl ?_
      refine aw_ret ?_
      obtain rfl := Option.some.inj h
      exact ⟨(.i w0_1), (.i w0_1), _, (res_tmps (by kernel_rfl)), (View.refl _), ⟨_, perm_sel _ [], List.take_sublist 0 _⟩, rfl, rfl⟩
theorem ref04_Size_all (K : Nat) : ref04_Size_S K := by
  induction K using Nat.strongRecOn with
  | _ K IH => exact ref04_Size_step K IH
theorem ref04_Size_ok (K : Nat) : ∀ (p0 : Tr) (r : Int), ref04_Size K p0 = some r → ACalls Try.prog 14 [(.tree p0)] [] (fun av s => av = (.i r) ∧ s = []) := (ref04_Size_all K)
theorem law04_ArenaTells_ok (K : Nat) : ∀ (p0 : List S_Cell) (p1 : List S_Cell) (r : Bool), law04_ArenaTells K p0 p1 = some r → ACalls Try.prog 3 [(.agg [(.slc (p0.flatMap S_Cell.cs) p0.length false)]), (.agg [(.slc (p1.flatMap S_Cell.cs) p1.length false)])] [] (fun av s => av = (.b r) ∧ s = []) := by
  intro p0 p1 r h
  refine acalls_enter Try.func3 rfl rfl ?_
  refine aw_seq ?_
  refine aw_normal [(0, (.agg [(.slc (p0.flatMap S_Cell.cs) p0.length false)])), (1, (.agg [(.slc (p1.flatMap S_Cell.cs) p1.length false)]))] (s' := []) (by kernel_rfl) rfl ?_
  refine aw_reg ?_
  refine at_run tt_ok 3 [(2, (.ptr [(.slc (p0.flatMap S_Cell.cs) p0.length false)])), (3, (.ptr [(.slc (p1.flatMap S_Cell.cs) p1.length false)]))] rfl (by kernel_rfl) ?_
  refine at_end rfl ?_
  refine aw_seq ?_
  refine aw_reg ?_
  refine at_run tt_ok 1 [(3, (.ptr [(.slc (p1.flatMap S_Cell.cs) p1.length false)])), (11, (.agg [(.slc (p0.flatMap S_Cell.cs) p0.length false)]))] rfl (by kernel_rfl) ?_
  obtain ⟨v1, hc2, h⟩ := bind_some' h
  refine at_op rfl rfl rfl (aop_call (first := []) (caps := []) (xs := [(.agg [(.slc (p0.flatMap S_Cell.cs) p0.length false)])]) (args' := [(.agg [(.slc (p0.flatMap S_Cell.cs) p0.length false)])]) (sm := []) (r := []) rfl (by kernel_rfl) Try.func10 rfl rfl (law04_few_ok K p0 _ hc2) (by kernel_rfl) (VW.refl _) (permTo [] (by kernel_rfl))) ?_
  rintro _ _ ⟨_, ⟨rfl, rfl⟩, rfl⟩
  obtain ⟨⟨v3, v4⟩, hc5, h⟩ := bind_some' h
  refine at_op rfl rfl rfl (aop_call (first := []) (caps := []) (xs := [(.agg [(.slc (v1.flatMap S_Cell.cs) v1.length false)])]) (args' := [(.agg [(.slc (v1.flatMap S_Cell.cs) v1.length false)])]) (sm := []) (r := []) rfl (by kernel_rfl) Try.func9 rfl rfl (ref04_Open_ok K v1 _ hc5) (by kernel_rfl) (VW.refl _) (permTo [] (by kernel_rfl))) ?_
  rintro _ _ ⟨_, ⟨rfl, rfl⟩, rfl⟩
  refine at_run tt_ok 8 [(3, (.ptr [(.slc (p1.flatMap S_Cell.cs) p1.length false)])), (5, (.tree v3)), (6, (.i v4))] rfl (by kernel_rfl) ?_
  refine at_end rfl ?_
  refine aw_seq ?_
  refine aw_reg ?_
  refine at_run tt_ok 1 [(5, (.tree v3)), (6, (.i v4)), (17, (.agg [(.slc (p1.flatMap S_Cell.cs) p1.length false)]))] rfl (by kernel_rfl) ?_
  obtain ⟨v6, hc7, h⟩ := bind_some' h
  refine at_op rfl rfl rfl (aop_call (first := []) (caps := []) (xs := [(.agg [(.slc (p1.flatMap S_Cell.cs) p1.length false)])]) (args' := [(.agg [(.slc (p1.flatMap S_Cell.cs) p1.length false)])]) (sm := []) (r := []) rfl (by kernel_rfl) Try.func10 rfl rfl (law04_few_ok K p1 _ hc7) (by kernel_rfl) (VW.refl _) (permTo [] (by kernel_rfl))) ?_
  rintro _ _ ⟨_, ⟨rfl, rfl⟩, rfl⟩
  obtain ⟨⟨v8, v9⟩, hc10, h⟩ := bind_some' h
  refine at_op rfl rfl rfl (aop_call (first := []) (caps := []) (xs := [(.agg [(.slc (v6.flatMap S_Cell.cs) v6.length false)])]) (args' := [(.agg [(.slc (v6.flatMap S_Cell.cs) v6.length false)])]) (sm := []) (r := []) rfl (by kernel_rfl) Try.func9 rfl rfl (ref04_Open_ok K v6 _ hc10) (by kernel_rfl) (VW.refl _) (permTo [] (by kernel_rfl))) ?_
  rintro _ _ ⟨_, ⟨rfl, rfl⟩, rfl⟩
  refine at_run tt_ok 8 [(5, (.tree v3)), (6, (.i v4)), (7, (.tree v8))] rfl (by kernel_rfl) ?_
  refine at_end rfl ?_
  refine aw_seq ?_
  refine aw_seq ?_
  refine aw_reg ?_
  refine at_run tt_ok 2 [(5, (.tree v3)), (6, (.i v4)), (7, (.tree v8)), (22, (.tree v3)), (23, (.tree v8))] rfl (by kernel_rfl) ?_
  obtain ⟨v11, hc12, h⟩ := bind_some' h
  refine at_op rfl rfl rfl (aop_call (first := []) (caps := []) (xs := [(.tree v3), (.tree v8)]) (args' := [(.tree v3), (.tree v8)]) (sm := []) (r := []) rfl (by kernel_rfl) Try.func11 rfl rfl (arena_Same_ok K v3 v8 _ hc12) (by kernel_rfl) (VW.refl _) (permTo [] (by kernel_rfl))) ?_
  rintro _ _ ⟨_, ⟨rfl, rfl⟩, rfl⟩
  refine at_run tt_ok 5 [(5, (.tree v3)), (6, (.i v4)), (24, (.b v11)), (25, (.tree v3)), (26, (.tree v8))] rfl (by kernel_rfl) ?_
  obtain ⟨v13, hc14, h⟩ := bind_some' h
  refine at_op rfl rfl rfl (aop_call (first := []) (caps := []) (xs := [(.tree v3), (.tree v8)]) (args' := [(.tree v3), (.tree v8)]) (sm := []) (r := []) rfl (by kernel_rfl) Try.func12 rfl rfl (ref04_Same_ok K v3 v8 _ hc14) (by kernel_rfl) (VW.refl _) (permTo [] (by kernel_rfl))) ?_
  rintro _ _ ⟨_, ⟨rfl, rfl⟩, rfl⟩
  refine at_run tt_ok 8 [(5, (.tree v3)), (6, (.i v4)), (29, (.b ((!(v11 == v13)))))] rfl (by kernel_rfl) ?_
  by_cases hb15 : (!(v11 == v13)) = true
  · have h := ite_t hb15 h
    refine at_setb 29 rfl hb15 ?_
    refine at_run tt_ok 21 [(5, (.tree v3)), (6, (.i v4)), (42, (.b true))] rfl (by kernel_rfl) ?_
    refine at_end rfl ?_
    refine aw_cond true rfl (fun _ => ?_) (fun h => by cases h)
    refine aw_seq ?_
    refine aw_reg ?_
    refine at_run tt_ok 1 [(4, (.b false))] rfl (by kernel_rfl) ?_
    refine at_end rfl ?_
    refine aw_ret ?_
    obtain rfl := Option.some.inj h
    exact ⟨(.b false), (.b false), _, (res_tmps (by kernel_rfl)), (View.refl _), ⟨_, perm_sel _ [], List.take_sublist 0 _⟩, rfl, rfl⟩
  · have h := ite_f hb15 h
    refine at_setb 29 rfl (nott hb15) ?_
    refine at_run tt_ok 9 [(5, (.tree v3)), (6, (.i v4)), (29, (.b false)), (30, (.tree v3))] rfl (by kernel_rfl) ?_
    obtain ⟨v16, hc17, h⟩ := bind_some' h
    refine at_op rfl rfl rfl (aop_call (first := []) (caps := []) (xs := [(.tree v3)]) (args' := [(.tree v3)]) (sm := []) (r := []) rfl (by kernel_rfl) Try.func13 rfl rfl (arena_Size_ok K v3 _ hc17) (by kernel_rfl) (VW.refl _) (permTo [] (by kernel_rfl))) ?_
    rintro _ _ ⟨_, ⟨rfl, rfl⟩, rfl⟩
    refine at_run tt_ok 11 [(5, (.tree v3)), (6, (.i v4)), (29, (.b false)), (31, (.i v16)), (32, (.tree v3))] rfl (by kernel_rfl) ?_
    obtain ⟨v18, hc19, h⟩ := bind_some' h
    refine at_op rfl rfl rfl (aop_call (first := []) (caps := []) (xs := [(.tree v3)]) (args' := [(.tree v3)]) (sm := []) (r := []) rfl (by kernel_rfl) Try.func14 rfl rfl (ref04_Size_ok K v3 _ hc19) (by kernel_rfl) (VW.refl _) (permTo [] (by kernel_rfl))) ?_
    rintro _ _ ⟨_, ⟨rfl, rfl⟩, rfl⟩
    refine at_run tt_ok 15 [(5, (.tree v3)), (6, (.i v4)), (36, (.b ((!decide (v16 = v18)))))] rfl (by kernel_rfl) ?_
    by_cases hb20 : (!decide (v16 = v18)) = true
    · have h := ite_t hb20 h
      refine at_setb 36 rfl hb20 ?_
      refine at_run tt_ok 21 [(5, (.tree v3)), (6, (.i v4)), (42, (.b true))] rfl (by kernel_rfl) ?_
      refine at_end rfl ?_
      refine aw_cond true rfl (fun _ => ?_) (fun h => by cases h)
      refine aw_seq ?_
      refine aw_reg ?_
      refine at_run tt_ok 1 [(4, (.b false))] rfl (by kernel_rfl) ?_
      refine at_end rfl ?_
      refine aw_ret ?_
      obtain rfl := Option.some.inj h
      exact ⟨(.b false), (.b false), _, (res_tmps (by kernel_rfl)), (View.refl _), ⟨_, perm_sel _ [], List.take_sublist 0 _⟩, rfl, rfl⟩
    · have h := ite_f hb20 h
      refine at_setb 36 rfl (nott hb20) ?_
      refine at_run tt_ok 16 [(5, (.tree v3)), (6, (.i v4)), (36, (.b false)), (37, (.tree v3))] rfl (by kernel_rfl) ?_
      obtain ⟨v21, hc22, h⟩ := bind_some' h
      refine at_op rfl rfl rfl (aop_call (first := []) (caps := []) (xs := [(.tree v3)]) (args' := [(.tree v3)]) (sm := []) (r := []) rfl (by kernel_rfl) Try.func15 rfl rfl (arena_Deep_ok K v3 _ hc22) (by kernel_rfl) (VW.refl _) (permTo [] (by kernel_rfl))) ?_
      rintro _ _ ⟨_, ⟨rfl, rfl⟩, rfl⟩
      refine at_run tt_ok 18 [(5, (.tree v3)), (6, (.i v4)), (36, (.b false)), (38, (.i v21)), (39, (.tree v3))] rfl (by kernel_rfl) ?_
      obtain ⟨v23, hc24, h⟩ := bind_some' h
      refine at_op rfl rfl rfl (aop_call (first := []) (caps := []) (xs := [(.tree v3)]) (args' := [(.tree v3)]) (sm := []) (r := []) rfl (by kernel_rfl) Try.func16 rfl rfl (ref04_Deep_ok K v3 _ hc24) (by kernel_rfl) (VW.refl _) (permTo [] (by kernel_rfl))) ?_
      rintro _ _ ⟨_, ⟨rfl, rfl⟩, rfl⟩
      refine at_run tt_ok 21 [(5, (.tree v3)), (6, (.i v4)), (42, (.b ((!decide (v21 = v23)))))] rfl (by kernel_rfl) ?_
      refine at_end rfl ?_
      refine aw_cond ((!decide (v21 = v23))) rfl (fun hb25 => ?_) (fun hb25 => ?_)
      · have h := ite_t hb25 h
        refine aw_seq ?_
        refine aw_reg ?_
        refine at_run tt_ok 1 [(4, (.b false))] rfl (by kernel_rfl) ?_
        refine at_end rfl ?_
        refine aw_ret ?_
        obtain rfl := Option.some.inj h
        exact ⟨(.b false), (.b false), _, (res_tmps (by kernel_rfl)), (View.refl _), ⟨_, perm_sel _ [], List.take_sublist 0 _⟩, rfl, rfl⟩
      · have h := ite_f (by rw [hb25]; simp) h
        refine aw_skip ?_
        refine aw_seq ?_
        refine aw_reg ?_
        refine at_run tt_ok 1 [(5, (.tree v3)), (6, (.i v4)), (43, (.tree v3))] rfl (by kernel_rfl) ?_
        obtain ⟨v26, hc27, h⟩ := bind_some' h
        refine at_op rfl rfl rfl (aop_call (first := []) (caps := []) (xs := [(.tree v3)]) (args' := [(.tree v3)]) (sm := []) (r := []) rfl (by kernel_rfl) Try.func17 rfl rfl (arena_Copy_opt_ok K v3 _ hc27) (by kernel_rfl) (VW.refl _) (permTo [] (by kernel_rfl))) ?_
        rintro _ _ ⟨_, (⟨rfl, rfl, rfl⟩ | ⟨o28, n29, n30, n31, n32, n33, rfl, rfl, rfl⟩), rfl⟩
        · refine at_run tt_ok 3 [(5, (.tree v3)), (6, (.i v4)), (9, .nil)] rfl (by kernel_rfl) ?_
          refine at_end rfl ?_
          refine aw_seq ?_
          refine aw_seq ?_
          refine aw_reg ?_
          refine at_run tt_ok 2 [(5, (.tree v3)), (6, (.i v4)), (9, .nil), (45, .nil), (46, (.tree v3))] rfl (by kernel_rfl) ?_
          obtain ⟨v34, hc35, h⟩ := bind_some' h
          refine at_op rfl rfl rfl (aop_call (first := []) (caps := []) (xs := [.nil, (.tree v3)]) (args' := [(.tree (.nil)), (.tree v3)]) (sm := []) (r := []) rfl (by kernel_rfl) Try.func12 rfl rfl (ref04_Same_ok K (.nil) v3 _ hc35) (by kernel_rfl) (VW.cons (View.of_weak Weak.nil_tree) (VW.same VW.nil)) (permTo [] (by kernel_rfl))) ?_
          rintro _ _ ⟨_, ⟨rfl, rfl⟩, rfl⟩
          refine at_run tt_ok 4 [(5, (.tree v3)), (6, (.i v4)), (9, .nil), (48, (.b ((!v34))))] rfl (by kernel_rfl) ?_
          refine at_end rfl ?_
          refine aw_cond ((!v34)) rfl (fun hb36 => ?_) (fun hb36 => ?_)
          · have h := ite_t hb36 h
            refine aw_seq ?_
            refine aw_reg ?_
            refine at_run tt_ok 1 [(4, (.b false))] rfl (by kernel_rfl) ?_
            refine at_end rfl ?_
            refine aw_ret ?_
            obtain rfl := Option.some.inj h
            exact ⟨(.b false), (.b false), _, (res_tmps (by kernel_rfl)), (View.refl _), ⟨_, perm_sel _ [], List.take_sublist 0 _⟩, rfl, rfl⟩
          · have h := ite_f (by rw [hb36]; simp) h
            refine aw_skip ?_
            refine aw_seq ?_
            refine aw_seq ?_
            refine aw_reg ?_
            refine at_run tt_ok 3 [(5, (.tree v3)), (9, .nil), (51, (.b ((decide (v4 = 0)))))] rfl (by kernel_rfl) ?_
            by_cases hb37 : (decide (v4 = 0)) = true
            · have h := ite_t hb37 h
              refine at_setb 51 rfl hb37 ?_
              refine at_run tt_ok 6 [(5, (.tree v3)), (9, .nil), (54, (.b false))] rfl (by kernel_rfl) ?_
              refine at_end rfl ?_
              refine aw_cond false rfl (fun h => by cases h) (fun _ => ?_)
              refine aw_skip ?_
              refine aw_seq ?_
              refine aw_reg ?_
              obtain ⟨v38, hc39, h⟩ := bind_some' h
              refine at_op rfl rfl rfl (aop_call (first := []) (caps := []) (xs := []) (args' := []) (sm := []) (r := []) rfl (by kernel_rfl) Try.func18 rfl rfl (law04_works_ok K _ hc39) (by kernel_rfl) (VW.refl _) (permTo [] (by kernel_rfl))) ?_
              rintro _ _ ⟨_, ⟨rfl, rfl⟩, rfl⟩
              refine at_run tt_ok 2 [(4, (.b v38))] rfl (by kernel_rfl) ?_
              refine at_end rfl ?_
              refine aw_ret ?_
              obtain rfl := Option.some.inj h
              exact ⟨(.b v38), (.b v38), _, (res_tmps (by kernel_rfl)), (View.refl _), ⟨_, perm_sel _ [], List.take_sublist 0 _⟩, rfl, rfl⟩
            · have h := ite_f hb37 h
              refine at_setb 51 rfl (nott hb37) ?_
              refine at_run tt_ok 6 [(5, (.tree v3)), (9, .nil), (54, (.b false))] rfl (by kernel_rfl) ?_
              refine at_end rfl ?_
              refine aw_cond false rfl (fun h => by cases h) (fun _ => ?_)
              refine aw_skip ?_
              refine aw_seq ?_
              refine aw_reg ?_
              obtain ⟨v40, hc41, h⟩ := bind_some' h
              refine at_op rfl rfl rfl (aop_call (first := []) (caps := []) (xs := []) (args' := []) (sm := []) (r := []) rfl (by kernel_rfl) Try.func18 rfl rfl (law04_works_ok K _ hc41) (by kernel_rfl) (VW.refl _) (permTo [] (by kernel_rfl))) ?_
              rintro _ _ ⟨_, ⟨rfl, rfl⟩, rfl⟩
              refine at_run tt_ok 2 [(4, (.b v40))] rfl (by kernel_rfl) ?_
              refine at_end rfl ?_
              refine aw_ret ?_
              obtain rfl := Option.some.inj h
              exact ⟨(.b v40), (.b v40), _, (res_tmps (by kernel_rfl)), (View.refl _), ⟨_, perm_sel _ [], List.take_sublist 0 _⟩, rfl, rfl⟩
        · refine at_run tt_ok 3 [(5, (.tree v3)), (6, (.i v4)), (9, (.ref o28 0))] rfl (by kernel_rfl) ?_
          refine at_end rfl ?_
          refine aw_seq ?_
          refine aw_seq ?_
          refine aw_reg ?_
          refine at_run tt_ok 2 [(5, (.tree v3)), (6, (.i v4)), (9, (.ref o28 0)), (45, (.ref o28 0)), (46, (.tree v3))] rfl (by kernel_rfl) ?_
          obtain ⟨v42, hc43, h⟩ := bind_some' h
          refine at_one rfl rfl rfl (aop_borrow (first := []) (caps := []) (xs := [(.ref o28 0), (.tree v3)]) (args' := [(.tree ((.node n29 n30 n31 n32 n33))), (.tree v3)]) (s1 := [(o28, .row 34 5 [(.i n29), (.i n30), (.s n31), (.s n32), (.slc (n33.map AV.tree) n33.length false)] 5)]) (z := (.b v42)) rfl (by kernel_rfl) Try.func12 rfl rfl (Shift.frz (j := 0) rfl) (ref04_Same_ok K ((.node n29 n30 n31 n32 n33)) v3 _ hc43) (by kernel_rfl) (VW.cons ((View.ref (j := 0) rfl).trans (View.of_weak (Weak.node_tree _ _ _ _ _))) (VW.same VW.nil)) (fun _ _ hq => by obtain ⟨hq, _⟩ := hq; exact hq) (lit_any _)) ?_
          refine at_run tt_ok 4 [(5, (.tree v3)), (6, (.i v4)), (9, (.ref o28 0)), (48, (.b ((!v42))))] rfl (by kernel_rfl) ?_
          refine at_end rfl ?_
          refine aw_cond ((!v42)) rfl (fun hb44 => ?_) (fun hb44 => ?_)
          · have h := ite_t hb44 h
            refine aw_seq ?_
            refine aw_reg ?_
            refine at_run tt_ok 1 [(4, (.b false))] rfl (by kernel_rfl) ?_
            refine at_end rfl ?_
            refine aw_ret ?_
            obtain rfl := Option.some.inj h
            exact ⟨(.b false), (.b false), _, (res_tmps (by kernel_rfl)), (View.refl _), ⟨_, perm_sel _ [], List.take_sublist 0 _⟩, rfl, rfl⟩
          · have h := ite_f (by rw [hb44]; simp) h
            refine aw_skip ?_
            refine aw_seq ?_
            refine aw_seq ?_
            refine aw_reg ?_
            refine at_run tt_ok 3 [(5, (.tree v3)), (9, (.ref o28 0)), (51, (.b ((decide (v4 = 0)))))] rfl (by kernel_rfl) ?_
            by_cases hb45 : (decide (v4 = 0)) = true
            · have h := ite_t hb45 h
              refine at_setb 51 rfl hb45 ?_
              refine at_run tt_ok 6 [(5, (.tree v3)), (9, (.ref o28 0)), (54, (.b true))] rfl (by kernel_rfl) ?_
              refine at_end rfl ?_
              refine aw_cond true rfl (fun _ => ?_) (fun h => by cases h)
              refine aw_seq ?_
              refine aw_reg ?_
              refine at_run tt_ok 4 [(5, (.tree v3)), (9, (.ref o28 0)), (55, (.ref o28 0)), (58, (.ref o28 2))] rfl (by kernel_rfl) ?_
              refine at_one rfl rfl rfl (aop_loadRef (j := 0) (off := 2) (av := (.s n31)) tt_ok rfl rfl rfl rfl) ?_
              obtain ⟨v46, hv46, h⟩ := bind_some' h
              refine at_one rfl rfl rfl (aop_cat (l := n31) (r := ([120] : List UInt8)) (v := v46) hv46 rfl rfl rfl) ?_
              refine at_run tt_ok 8 [(5, (.tree v3)), (9, (.ref o28 0)), (60, (.s v46)), (62, (.ref o28 2))] rfl (by kernel_rfl) ?_
              refine at_one rfl rfl rfl (aop_storeRef (id := o28) (off := 2) (j := 0) (ds := [(.s v46)]) tt_ok rfl rfl rfl rfl rfl) ?_
              refine at_end rfl ?_
              refine aw_seq ?_
              refine aw_normal [(5, (.tree v3)), (9, (.ref o28 0))] (s' := [(o28, .row 34 5 [(.i n29), (.i n30), (.s v46), (.s n32), (.slc (n33.map AV.tree) n33.length false)] 0)]) (by kernel_rfl) rfl ?_
              refine aw_reg ?_
              refine at_run tt_ok 2 [(5, (.tree v3)), (9, (.ref o28 0)), (63, (.ref o28 0)), (64, (.tree v3))] rfl (by kernel_rfl) ?_
              obtain ⟨v47, hc48, h⟩ := bind_some' h
              refine at_one rfl rfl rfl (aop_borrow (first := []) (caps := []) (xs := [(.ref o28 0), (.tree v3)]) (args' := [(.tree ((.node n29 n30 v46 n32 n33))), (.tree v3)]) (s1 := [(o28, .row 34 5 [(.i n29), (.i n30), (.s v46), (.s n32), (.slc (n33.map AV.tree) n33.length false)] 5)]) (z := (.b v47)) rfl (by kernel_rfl) Try.func12 rfl rfl (Shift.frz (j := 0) rfl) (ref04_Same_ok K ((.node n29 n30 v46 n32 n33)) v3 _ hc48) (by kernel_rfl) (VW.cons ((View.ref (j := 0) rfl).trans (View.of_weak (Weak.node_tree _ _ _ _ _))) (VW.same VW.nil)) (fun _ _ hq => by obtain ⟨hq, _⟩ := hq; exact hq) (lit_any _)) ?_
              refine at_run tt_ok 4 [(5, (.tree v3)), (9, (.ref o28 0)), (66, (.b v47))] rfl (by kernel_rfl) ?_
              by_cases hb49 : v47 = true
              · have h := ite_t hb49 h
                refine at_setb 66 rfl hb49 ?_
                refine at_run tt_ok 8 [(70, (.b true))] rfl (by kernel_rfl) ?_
                refine at_end rfl ?_
                refine aw_cond true rfl (fun _ => ?_) (fun h => by cases h)
                refine aw_seq ?_
                refine aw_reg ?_
                refine at_run tt_ok 1 [(4, (.b false))] rfl (by kernel_rfl) ?_
                refine at_end rfl ?_
                refine aw_ret ?_
                obtain rfl := Option.some.inj h
                exact ⟨(.b false), (.b false), _, (res_tmps (by kernel_rfl)), (View.refl _), ⟨_, perm_sel _ [], List.take_sublist 0 _⟩, rfl, rfl⟩
              · have h := ite_f hb49 h
                refine at_setb 66 rfl (nott hb49) ?_
                refine at_run tt_ok 6 [(66, (.b false)), (67, (.ref o28 0)), (68, (.tree v3))] rfl (by kernel_rfl) ?_
                obtain ⟨v50, hc51, h⟩ := bind_some' h
                refine at_one rfl rfl rfl (aop_borrow (first := []) (caps := []) (xs := [(.ref o28 0), (.tree v3)]) (args' := [(.tree ((.node n29 n30 v46 n32 n33))), (.tree v3)]) (s1 := [(o28, .row 34 5 [(.i n29), (.i n30), (.s v46), (.s n32), (.slc (n33.map AV.tree) n33.length false)] 5)]) (z := (.b v50)) rfl (by kernel_rfl) Try.func11 rfl rfl (Shift.frz (j := 0) rfl) (arena_Same_ok K ((.node n29 n30 v46 n32 n33)) v3 _ hc51) (by kernel_rfl) (VW.cons ((View.ref (j := 0) rfl).trans (View.of_weak (Weak.node_tree _ _ _ _ _))) (VW.same VW.nil)) (fun _ _ hq => by obtain ⟨hq, _⟩ := hq; exact hq) (lit_any _)) ?_
                refine at_run tt_ok 8 [(70, (.b v50))] rfl (by kernel_rfl) ?_
                refine at_end rfl ?_
                refine aw_cond v50 rfl (fun hb52 => ?_) (fun hb52 => ?_)
                · have h := ite_t hb52 h
                  refine aw_seq ?_
                  refine aw_reg ?_
                  refine at_run tt_ok 1 [(4, (.b false))] rfl (by kernel_rfl) ?_
                  refine at_end rfl ?_
                  refine aw_ret ?_
                  obtain rfl := Option.some.inj h
                  exact ⟨(.b false), (.b false), _, (res_tmps (by kernel_rfl)), (View.refl _), ⟨_, perm_sel _ [], List.take_sublist 0 _⟩, rfl, rfl⟩
                · have h := ite_f (by rw [hb52]; simp) h
                  refine aw_skip ?_
                  refine aw_seq ?_
                  refine aw_reg ?_
                  obtain ⟨v53, hc54, h⟩ := bind_some' h
                  refine at_op rfl rfl rfl (aop_call (first := []) (caps := []) (xs := []) (args' := []) (sm := []) (r := [(o28, .row 34 5 [(.i n29), (.i n30), (.s v46), (.s n32), (.slc (n33.map AV.tree) n33.length false)] 0)]) rfl (by kernel_rfl) Try.func18 rfl rfl (law04_works_ok K _ hc54) (by kernel_rfl) (VW.refl _) (permTo [] (by kernel_rfl))) ?_
                  rintro _ _ ⟨_, ⟨rfl, rfl⟩, rfl⟩
                  refine at_run tt_ok 2 [(4, (.b v53))] rfl (by kernel_rfl) ?_
                  refine at_end rfl ?_
                  refine aw_ret ?_
                  obtain rfl := Option.some.inj h
                  exact ⟨(.b v53), (.b v53), _, (res_tmps (by kernel_rfl)), (View.refl _), ⟨_, perm_sel _ [], List.take_sublist 0 _⟩, rfl, rfl⟩
            · have h := ite_f hb45 h
              refine at_setb 51 rfl (nott hb45) ?_
              refine at_run tt_ok 6 [(5, (.tree v3)), (9, (.ref o28 0)), (54, (.b false))] rfl (by kernel_rfl) ?_
              refine at_end rfl ?_
              refine aw_cond false rfl (fun h => by cases h) (fun _ => ?_)
              refine aw_skip ?_
              refine aw_seq ?_
              refine aw_reg ?_
              obtain ⟨v55, hc56, h⟩ := bind_some' h
              refine at_op rfl rfl rfl (aop_call (first := []) (caps := []) (xs := []) (args' := []) (sm := []) (r := [(o28, .row 34 5 [(.i n29), (.i n30), (.s n31), (.s n32), (.slc (n33.map AV.tree) n33.length false)] 0)]) rfl (by kernel_rfl) Try.func18 rfl rfl (law04_works_ok K _ hc56) (by kernel_rfl) (VW.refl _) (permTo [] (by kernel_rfl))) ?_
              rintro _ _ ⟨_, ⟨rfl, rfl⟩, rfl⟩
              refine at_run tt_ok 2 [(4, (.b v55))] rfl (by kernel_rfl) ?_
              refine at_end rfl ?_
              refine aw_ret ?_
              obtain rfl := Option.some.inj h
              exact ⟨(.b v55), (.b v55), _, (res_tmps (by kernel_rfl)), (View.refl _), ⟨_, perm_sel _ [], List.take_sublist 0 _⟩, rfl, rfl⟩
theorem slices_Index_ok (K : Nat) : ∀ (p0 : List Bool) (p1 : Bool) (r : Int), slices_Index K p0 p1 = some r → ACalls Try.prog 42 [(.slc (p0.map AV.b) p0.length false), (.b p1)] [] (fun av s => av = (.i r) ∧ s = []) := by
  intro p0 p1 r h
  refine acalls_enter Try.func42 rfl rfl ?_
  refine aw_seq ?_
  refine aw_normal [(0, (.slc (p0.map AV.b) p0.length false)), (1, (.b p1))] (s' := []) (by kernel_rfl) rfl ?_
  refine aw_reg ?_
  refine at_run tt_ok 1 [(0, (.slc (p0.map AV.b) p0.length false)), (1, (.b p1))] rfl (by kernel_rfl) ?_
  refine at_end rfl ?_
  refine aw_seq ?_
  refine aw_seq ?_
  refine aw_reg ?_
  refine at_run tt_ok 3 [(0, (.slc (p0.map AV.b) p0.length false)), (1, (.b p1)), (7, (.i (((p0.length : Nat) : Int)))), (8, (.i 0))] rfl (by kernel_rfl) ?_
  refine at_end rfl ?_
  refine aw_block ?_
  refine aw_loop_ind' (X := Int) (fun k' x => k' ≤ K ∧ slices_Index_l0 k' p0 p1 x = some r) (fun x => [(0, (.slc (p0.map AV.b) p0.length false)), (1, (.b p1)), (7, (.i (((p0.length : Nat) : Int)))), (8, (.i x))]) (fun x => []) (fun x hx => by cases hx.2) ?_ K 0 ⟨Nat.le_refl _, h⟩ (by kernel_rfl) rfl
  clear h
  rintro k3 w0_1 ⟨hlek3, h⟩
  refine aw_seq ?_
  refine aw_reg ?_
  refine at_run tt_ok 1 [(0, (.slc (p0.map AV.b) p0.length false)), (1, (.b p1)), (7, (.i (((p0.length : Nat) : Int)))), (8, (.i w0_1)), (9, (.b ((decide (w0_1 < (((p0.length : Nat) : Int)))))))] rfl (by kernel_rfl) ?_
  refine at_end rfl ?_
  refine aw_seq ?_
  refine aw_cond ((decide (w0_1 < (((p0.length : Nat) : Int))))) rfl (fun hb4 => ?_) (fun hb4 => ?_)
  · have h := ite_t hb4 h
    refine aw_skip ?_
    refine aw_seq ?_
    refine aw_block ?_
    refine aw_seq ?_
    refine aw_reg ?_
    refine at_run tt_ok 2 [(0, (.slc (p0.map AV.b) p0.length false)), (1, (.b p1)), (5, (.i w0_1)), (7, (.i (((p0.length : Nat) : Int)))), (8, (.i w0_1))] rfl (by kernel_rfl) ?_
    refine at_end rfl ?_
    refine aw_seq ?_
    refine aw_reg ?_
    refine at_run tt_ok 3 [(0, (.slc (p0.map AV.b) p0.length false)), (1, (.b p1)), (5, (.i w0_1)), (7, (.i (((p0.length : Nat) : Int)))), (8, (.i w0_1)), (11, (.b p1)), (12, (.slc (p0.map AV.b) p0.length false)), (13, (.i w0_1))] rfl (by kernel_rfl) ?_
    obtain ⟨v5, hv5, h⟩ := bind_some' h
    refine at_one rfl rfl rfl (aop_idx1 (k := .i64) (g := AV.b) (l := p0) (fu := false) (j := w0_1) (v := v5) tt_ok rfl rfl rfl rfl rfl hv5) ?_
    refine at_run tt_ok 6 [(0, (.slc (p0.map AV.b) p0.length false)), (1, (.b p1)), (5, (.i w0_1)), (7, (.i (((p0.length : Nat) : Int)))), (8, (.i w0_1)), (16, (.b ((p1 == v5))))] rfl (by kernel_rfl) ?_
    refine at_end rfl ?_
    refine aw_cond ((p1 == v5)) rfl (fun hb6 => ?_) (fun hb6 => ?_)
    · have h := ite_t hb6 h
      refine aw_seq ?_
      refine aw_reg ?_
      refine at_run tt_ok 2 [(4, (.i w0_1))] rfl (by kernel_rfl) ?_
      refine at_end rfl ?_
      refine aw_ret ?_
      obtain rfl := Option.some.inj h
      exact ⟨(.i w0_1), (.i w0_1), _, (res_tmps (by kernel_rfl)), (View.refl _), ⟨_, perm_sel _ [], List.take_sublist 0 _⟩, rfl, rfl⟩
    · have h := ite_f (by rw [hb6]; simp) h
      refine aw_skip ?_
      refine aw_reg ?_
      refine at_run tt_ok 2 [(0, (.slc (p0.map AV.b) p0.length false)), (1, (.b p1)), (7, (.i (((p0.length : Nat) : Int)))), (8, (.i ((IntKind.i64.wrap (w0_1 + 1)))))] rfl (by kernel_rfl) ?_
      refine at_end rfl ?_
      exact ⟨k3, (IntKind.i64.wrap (w0_1 + 1)), [], [], by omega, ⟨by omega, h⟩, by kernel_rfl, rfl⟩
  · have h := ite_f (by rw [hb4]; simp) h
    refine aw_exit ?_
    refine aw_seq ?_
    refine aw_reg ?_
    refine at_run tt_ok 1 [(4, (.i ((-1))))] rfl (by kernel_rfl) ?_
    refine at_end rfl ?_
    refine aw_ret ?_
    obtain rfl := Option.some.inj h
    exact ⟨(.i ((-1))), (.i ((-1))), _, (res_tmps (by kernel_rfl)), (View.refl _), ⟨_, perm_sel _ [], List.take_sublist 0 _⟩, rfl, rfl⟩
theorem slices_Contains_ok (K : Nat) : ∀ (p0 : List Bool) (p1 : Bool) (r : Bool), slices_Contains K p0 p1 = some r → ACalls Try.prog 33 [(.slc (p0.map AV.b) p0.length false), (.b p1)] [] (fun av s => av = (.b r) ∧ s = []) := by
  intro p0 p1 r h
  refine acalls_enter Try.func33 rfl rfl ?_
  refine aw_seq ?_
  refine aw_normal [(0, (.slc (p0.map AV.b) p0.length false)), (1, (.b p1))] (s' := []) (by kernel_rfl) rfl ?_
  refine aw_reg ?_
  refine at_run tt_ok 1 [(0, (.slc (p0.map AV.b) p0.length false)), (1, (.b p1))] rfl (by kernel_rfl) ?_
  refine at_end rfl ?_
  refine aw_seq ?_
  refine aw_reg ?_
  refine at_run tt_ok 2 [(5, (.slc (p0.map AV.b) p0.length false)), (6, (.b p1))] rfl (by kernel_rfl) ?_
  obtain ⟨v1, hc2, h⟩ := bind_some' h
  refine at_op rfl rfl rfl (aop_call (first := []) (caps := []) (xs := [(.slc (p0.map AV.b) p0.length false), (.b p1)]) (args' := [(.slc (p0.map AV.b) p0.length false), (.b p1)]) (sm := []) (r := []) rfl (by kernel_rfl) Try.func42 rfl rfl (slices_Index_ok K p0 p1 _ hc2) (by kernel_rfl) (VW.refl _) (permTo [] (by kernel_rfl))) ?_
  rintro _ _ ⟨_, ⟨rfl, rfl⟩, rfl⟩
  refine at_run tt_ok 5 [(4, (.b ((decide (0 ≤ v1)))))] rfl (by kernel_rfl) ?_
  refine at_end rfl ?_
  refine aw_ret ?_
  obtain rfl := Option.some.inj h
  exact ⟨(.b ((decide (0 ≤ v1)))), (.b ((decide (0 ≤ v1)))), _, (res_tmps (by kernel_rfl)), (View.refl _), ⟨_, perm_sel _ [], List.take_sublist 0 _⟩, rfl, rfl⟩
theorem arena_Open_ok (K : Nat) : ∀ (p0 : List S_Cell) (r : Tr × Int), arena_Open K p0 = some r → ACalls Try.prog 19 [(.agg [(.slc (p0.flatMap S_Cell.cs) p0.length false)])] [] (fun av s => av = (.tup [(.tree r.1), (.i r.2)]) ∧ s = []) := by
  intro p0 r h
  refine acalls_enter Try.func19 rfl rfl ?_
  refine aw_seq ?_
  refine aw_normal [(0, (.agg [(.slc (p0.flatMap S_Cell.cs) p0.length false)]))] (s' := []) (by kernel_rfl) rfl ?_
  refine aw_reg ?_
  refine at_run tt_ok 3 [(1, (.ptr [(.slc (p0.flatMap S_Cell.cs) p0.length false)]))] rfl (by kernel_rfl) ?_
  refine at_end rfl ?_
  refine aw_seq ?_
  refine aw_reg ?_
  refine at_run tt_ok 3 [(4, (.slc (p0.flatMap S_Cell.cs) p0.length false))] rfl (by kernel_rfl) ?_
  refine at_end rfl ?_
  refine aw_seq ?_
  refine aw_block ?_
  refine aw_seq ?_
  refine aw_reg ?_
  refine at_run tt_ok 4 [(4, (.slc (p0.flatMap S_Cell.cs) p0.length false)), (15, (.b ((decide ((((p0.length : Nat) : Int)) = 0)))))] rfl (by kernel_rfl) ?_
  refine at_end rfl ?_
  refine aw_cond ((decide ((((p0.length : Nat) : Int)) = 0))) rfl (fun hb1 => ?_) (fun hb1 => ?_)
  · have h := ite_t hb1 h
    refine aw_seq ?_
    refine aw_reg ?_
    refine at_run tt_ok 2 [(2, .nil), (3, (.i 1))] rfl (by kernel_rfl) ?_
    refine at_end rfl ?_
    refine aw_ret ?_
    obtain rfl := Option.some.inj h
    exact ⟨(.tup [.nil, (.i 1)]), (.tup [(.tree (.nil)), (.i 1)]), _, (res_tmps (by kernel_rfl)), (View.tup (VW.cons (View.of_weak Weak.nil_tree) (VW.same VW.nil))), ⟨_, perm_sel _ [], List.take_sublist 0 _⟩, rfl, rfl⟩
  · have h := ite_f (by rw [hb1]; simp) h
    refine aw_seq ?_
    refine aw_reg ?_
    refine at_run tt_ok 4 [(4, (.slc (p0.flatMap S_Cell.cs) p0.length false)), (19, (.b ((decide (8192 < (((p0.length : Nat) : Int)))))))] rfl (by kernel_rfl) ?_
    refine at_end rfl ?_
    refine aw_cond ((decide (8192 < (((p0.length : Nat) : Int))))) rfl (fun hb2 => ?_) (fun hb2 => ?_)
    · have h := ite_t hb2 h
      refine aw_seq ?_
      refine aw_reg ?_
      refine at_run tt_ok 2 [(2, .nil), (3, (.i 3))] rfl (by kernel_rfl) ?_
      refine at_end rfl ?_
      refine aw_ret ?_
      obtain rfl := Option.some.inj h
      exact ⟨(.tup [.nil, (.i 3)]), (.tup [(.tree (.nil)), (.i 3)]), _, (res_tmps (by kernel_rfl)), (View.tup (VW.cons (View.of_weak Weak.nil_tree) (VW.same VW.nil))), ⟨_, perm_sel _ [], List.take_sublist 0 _⟩, rfl, rfl⟩
    · have h := ite_f (by rw [hb2]; simp) h
      refine aw_skip ?_
      refine aw_seq ?_
      refine aw_reg ?_
      refine at_run tt_ok 2 [(4, (.slc (p0.flatMap S_Cell.cs) p0.length false)), (24, (.i (((p0.length : Nat) : Int))))] rfl (by kernel_rfl) ?_
      obtain ⟨v3, hv3, h⟩ := bind_some' h
      refine at_op rfl rfl rfl (aop_mk1 (k1 := .i64) (k2 := .i64) (g := AV.tree) (z := .nil) (r := v3) (l := ((p0.length : Nat) : Int)) tt_ok hv3 rfl rfl rfl rfl rfl rfl rfl Weak.nil_tree rfl rfl) ?_
      rintro _ _ ⟨o4, rfl, rfl⟩
      refine at_run tt_ok 4 [(4, (.slc (p0.flatMap S_Cell.cs) p0.length false)), (5, (.row o4 v3.length))] rfl (by kernel_rfl) ?_
      refine at_end rfl ?_
      refine aw_seq ?_
      refine aw_reg ?_
      refine at_run tt_ok 2 [(4, (.slc (p0.flatMap S_Cell.cs) p0.length false)), (5, (.row o4 v3.length)), (27, (.i (((p0.length : Nat) : Int))))] rfl (by kernel_rfl) ?_
      obtain ⟨v5, hv5, h⟩ := bind_some' h
      refine at_op rfl rfl rfl (aop_mk1 (k1 := .i64) (k2 := .i64) (g := AV.b) (z := false) (r := v5) (l := ((p0.length : Nat) : Int)) tt_ok hv5 rfl rfl rfl rfl rfl rfl rfl (Weak.refl _) rfl rfl) ?_
      rintro _ _ ⟨o6, rfl, rfl⟩
      refine at_run tt_ok 4 [(4, (.slc (p0.flatMap S_Cell.cs) p0.length false)), (5, (.row o4 v3.length)), (6, (.row o6 v5.length))] rfl (by kernel_rfl) ?_
      refine at_end rfl ?_
      refine aw_seq ?_
      refine aw_seq ?_
      refine aw_reg ?_
      refine at_run tt_ok 3 [(4, (.slc (p0.flatMap S_Cell.cs) p0.length false)), (5, (.row o4 v3.length)), (6, (.row o6 v5.length)), (29, (.slc (p0.flatMap S_Cell.cs) p0.length false)), (30, (.i (((p0.length : Nat) : Int)))), (31, (.i 0))] rfl (by kernel_rfl) ?_
      refine at_end rfl ?_
      refine aw_block ?_
      refine aw_loop_ind' (X := Int × (List Bool) × (List Tr)) (fun k' x => k' ≤ K ∧ arena_Open_l0 k' p0 x.1 x.2.1 x.2.2 = some r) (fun x => [(4, (.slc (p0.flatMap S_Cell.cs) p0.length false)), (5, (.row o4 x.2.2.length)), (6, (.row o6 x.2.1.length)), (29, (.slc (p0.flatMap S_Cell.cs) p0.length false)), (30, (.i (((p0.length : Nat) : Int)))), (31, (.i x.1))]) (fun x => [(o6, .row 4 1 (x.2.1.map AV.b) 0), (o4, .row 25 1 (x.2.2.map AV.tree) 0)]) (fun x hx => by cases hx.2) ?_ K (0, v5, v3) ⟨Nat.le_refl _, h⟩ (by kernel_rfl) rfl
      clear h
      rintro k11 ⟨w0_1, w0_2, w0_3⟩ ⟨hlek11, h⟩
      refine aw_seq ?_
      refine aw_reg ?_
      refine at_run tt_ok 1 [(4, (.slc (p0.flatMap S_Cell.cs) p0.length false)), (5, (.row o4 w0_3.length)), (6, (.row o6 w0_2.length)), (29, (.slc (p0.flatMap S_Cell.cs) p0.length false)), (30, (.i (((p0.length : Nat) : Int)))), (31, (.i w0_1)), (32, (.b ((decide (w0_1 < (((p0.length : Nat) : Int)))))))] rfl (by kernel_rfl) ?_
      refine at_end rfl ?_
      refine aw_seq ?_
      refine aw_cond ((decide (w0_1 < (((p0.length : Nat) : Int))))) rfl (fun hb12 => ?_) (fun hb12 => ?_)
      · have h := ite_t hb12 h
        refine aw_skip ?_
        refine aw_seq ?_
        refine aw_block ?_
        refine aw_seq ?_
        refine aw_reg ?_
        refine at_run tt_ok 1 [(4, (.slc (p0.flatMap S_Cell.cs) p0.length false)), (5, (.row o4 w0_3.length)), (6, (.row o6 w0_2.length)), (29, (.slc (p0.flatMap S_Cell.cs) p0.length false)), (30, (.i (((p0.length : Nat) : Int)))), (31, (.i w0_1)), (33, (.i w0_1))] rfl (by kernel_rfl) ?_
        obtain ⟨v13, hv13, h⟩ := bind_some' h
        refine at_one rfl rfl rfl (aop_idxN (k := .i64) (g := S_Cell.cs) (l := p0) (fu := false) (j := w0_1) (v := v13) tt_ok S_Cell.len rfl rfl rfl rfl rfl hv13) ?_
        refine at_run tt_ok 3 [(4, (.slc (p0.flatMap S_Cell.cs) p0.length false)), (5, (.row o4 w0_3.length)), (6, (.row o6 w0_2.length)), (29, (.slc (p0.flatMap S_Cell.cs) p0.length false)), (30, (.i (((p0.length : Nat) : Int)))), (31, (.i w0_1)), (33, (.i w0_1)), (35, (.agg [(.i v13.fKind), (.i v13.fN), (.s v13.fName), (.s v13.fMark), (.slc (v13.fKids.map AV.i) v13.fKids.length false)]))] rfl (by kernel_rfl) ?_
        refine at_op rfl rfl rfl (aop_alloc (zs := [(.int .i64 0), (.int .i64 0), (.string ⟨#[]⟩), (.string ⟨#[]⟩), (.slice none 0 0)]) tt_ok rfl rfl rfl) ?_
        rintro _ _ ⟨o14, rfl, rfl⟩
        refine at_run tt_ok 5 [(4, (.slc (p0.flatMap S_Cell.cs) p0.length false)), (5, (.row o4 w0_3.length)), (6, (.row o6 w0_2.length)), (7, (.i w0_1)), (8, (.ref o14 0)), (29, (.slc (p0.flatMap S_Cell.cs) p0.length false)), (30, (.i (((p0.length : Nat) : Int)))), (31, (.i w0_1)), (35, (.agg [(.i v13.fKind), (.i v13.fN), (.s v13.fName), (.s v13.fMark), (.slc (v13.fKids.map AV.i) v13.fKids.length false)]))] rfl (by kernel_rfl) ?_
        refine at_one rfl rfl rfl (aop_storeRef (id := o14) (off := 0) (j := 0) (ds := [(.i v13.fKind), (.i v13.fN), (.s v13.fName), (.s v13.fMark), (.slc (v13.fKids.map AV.i) v13.fKids.length false)]) tt_ok rfl rfl rfl rfl rfl) ?_
        refine at_end rfl ?_
        refine aw_seq ?_
        refine aw_normal [(4, (.slc (p0.flatMap S_Cell.cs) p0.length false)), (5, (.row o4 w0_3.length)), (6, (.row o6 w0_2.length)), (7, (.i w0_1)), (8, (.ref o14 0)), (29, (.slc (p0.flatMap S_Cell.cs) p0.length false)), (30, (.i (((p0.length : Nat) : Int)))), (31, (.i w0_1))] (s' := [(o14, .row 58 5 [(.i v13.fKind), (.i v13.fN), (.s v13.fName), (.s v13.fMark), (.slc (v13.fKids.map AV.i) v13.fKids.length false)] 0), (o6, .row 4 1 (w0_2.map AV.b) 0), (o4, .row 25 1 (w0_3.map AV.tree) 0)]) (by kernel_rfl) rfl ?_
        refine aw_reg ?_
        refine at_run tt_ok 1 [(4, (.slc (p0.flatMap S_Cell.cs) p0.length false)), (5, (.row o4 w0_3.length)), (6, (.row o6 w0_2.length)), (7, (.i w0_1)), (8, (.ref o14 0)), (29, (.slc (p0.flatMap S_Cell.cs) p0.length false)), (30, (.i (((p0.length : Nat) : Int)))), (31, (.i w0_1)), (36, (.ref o14 0))] rfl (by kernel_rfl) ?_
        refine at_one rfl rfl rfl (aop_loadRef (j := 0) (off := 0) (av := (.i v13.fKind)) tt_ok rfl rfl rfl rfl) ?_
        refine at_run tt_ok 3 [(4, (.slc (p0.flatMap S_Cell.cs) p0.length false)), (5, (.row o4 w0_3.length)), (6, (.row o6 w0_2.length)), (7, (.i w0_1)), (8, (.ref o14 0)), (29, (.slc (p0.flatMap S_Cell.cs) p0.length false)), (30, (.i (((p0.length : Nat) : Int)))), (31, (.i w0_1)), (37, (.i v13.fKind)), (38, (.ref o14 1))] rfl (by kernel_rfl) ?_
        refine at_one rfl rfl rfl (aop_loadRef (j := 0) (off := 1) (av := (.i v13.fN)) tt_ok rfl rfl rfl rfl) ?_
        refine at_run tt_ok 5 [(4, (.slc (p0.flatMap S_Cell.cs) p0.length false)), (5, (.row o4 w0_3.length)), (6, (.row o6 w0_2.length)), (7, (.i w0_1)), (8, (.ref o14 0)), (29, (.slc (p0.flatMap S_Cell.cs) p0.length false)), (30, (.i (((p0.length : Nat) : Int)))), (31, (.i w0_1)), (37, (.i v13.fKind)), (39, (.i v13.fN)), (40, (.ref o14 2))] rfl (by kernel_rfl) ?_
        refine at_one rfl rfl rfl (aop_loadRef (j := 0) (off := 2) (av := (.s v13.fName)) tt_ok rfl rfl rfl rfl) ?_
        refine at_run tt_ok 7 [(4, (.slc (p0.flatMap S_Cell.cs) p0.length false)), (5, (.row o4 w0_3.length)), (6, (.row o6 w0_2.length)), (7, (.i w0_1)), (8, (.ref o14 0)), (29, (.slc (p0.flatMap S_Cell.cs) p0.length false)), (30, (.i (((p0.length : Nat) : Int)))), (31, (.i w0_1)), (37, (.i v13.fKind)), (39, (.i v13.fN)), (41, (.s v13.fName)), (42, (.ref o14 3))] rfl (by kernel_rfl) ?_
        refine at_one rfl rfl rfl (aop_loadRef (j := 0) (off := 3) (av := (.s v13.fMark)) tt_ok rfl rfl rfl rfl) ?_
        refine at_run tt_ok 9 [(4, (.slc (p0.flatMap S_Cell.cs) p0.length false)), (5, (.row o4 w0_3.length)), (6, (.row o6 w0_2.length)), (7, (.i w0_1)), (8, (.ref o14 0)), (29, (.slc (p0.flatMap S_Cell.cs) p0.length false)), (30, (.i (((p0.length : Nat) : Int)))), (31, (.i w0_1)), (44, (.agg [(.i v13.fKind), (.i v13.fN), (.s v13.fName), (.s v13.fMark), (.lit (.slice none 0 0))]))] rfl (by kernel_rfl) ?_
        refine at_op rfl rfl rfl (aop_box (cs := [(.i v13.fKind), (.i v13.fN), (.s v13.fName), (.s v13.fMark), (.lit (.slice none 0 0))]) rfl rfl) ?_
        rintro _ _ ⟨o15, rfl, rfl⟩
        refine at_run tt_ok 11 [(4, (.slc (p0.flatMap S_Cell.cs) p0.length false)), (5, (.row o4 w0_3.length)), (6, (.row o6 w0_2.length)), (7, (.i w0_1)), (8, (.ref o14 0)), (9, (.ref o15 0)), (29, (.slc (p0.flatMap S_Cell.cs) p0.length false)), (30, (.i (((p0.length : Nat) : Int)))), (31, (.i w0_1))] rfl (by kernel_rfl) ?_
        refine at_end rfl ?_
        refine aw_seq ?_
        refine aw_seq ?_
        refine aw_reg ?_
        refine at_run tt_ok 1 [(4, (.slc (p0.flatMap S_Cell.cs) p0.length false)), (5, (.row o4 w0_3.length)), (6, (.row o6 w0_2.length)), (7, (.i w0_1)), (9, (.ref o15 0)), (29, (.slc (p0.flatMap S_Cell.cs) p0.length false)), (30, (.i (((p0.length : Nat) : Int)))), (31, (.i w0_1)), (46, (.ref o14 4))] rfl (by kernel_rfl) ?_
        refine at_one rfl rfl rfl (aop_loadRef (j := 1) (off := 4) (av := (.slc (v13.fKids.map AV.i) v13.fKids.length false)) tt_ok rfl rfl rfl rfl) ?_
        refine at_run tt_ok 4 [(4, (.slc (p0.flatMap S_Cell.cs) p0.length false)), (5, (.row o4 w0_3.length)), (6, (.row o6 w0_2.length)), (7, (.i w0_1)), (9, (.ref o15 0)), (29, (.slc (p0.flatMap S_Cell.cs) p0.length false)), (30, (.i (((p0.length : Nat) : Int)))), (31, (.i w0_1)), (47, (.slc (v13.fKids.map AV.i) v13.fKids.length false)), (48, (.i (((v13.fKids.length : Nat) : Int)))), (49, (.i 0))] rfl (by kernel_rfl) ?_
        refine at_end rfl ?_
        refine aw_block ?_
        refine aw_adoptCell (j := 0) 4 25 1 rfl rfl (fun o18 => ?_)
        refine aw_normal [(4, (.slc (p0.flatMap S_Cell.cs) p0.length false)), (5, (.row o4 w0_3.length)), (6, (.row o6 w0_2.length)), (7, (.i w0_1)), (9, (.ref o15 0)), (29, (.slc (p0.flatMap S_Cell.cs) p0.length false)), (30, (.i (((p0.length : Nat) : Int)))), (31, (.i w0_1)), (47, (.slc (v13.fKids.map AV.i) v13.fKids.length false)), (48, (.i (((v13.fKids.length : Nat) : Int)))), (49, (.i 0))] (s' := [(o18, .row 25 1 ((([] : List Tr)).map AV.tree) 0), (o15, .row 34 5 [(.i v13.fKind), (.i v13.fN), (.s v13.fName), (.s v13.fMark), (.row o18 (([] : List Tr)).length)] 0), (o14, .row 58 5 [(.i v13.fKind), (.i v13.fN), (.s v13.fName), (.s v13.fMark), (.slc (v13.fKids.map AV.i) v13.fKids.length false)] 0), (o6, .row 4 1 (w0_2.map AV.b) 0), (o4, .row 25 1 (w0_3.map AV.tree) 0)]) (by kernel_rfl) rfl ?_
        refine aw_loop_ind' (X := Int × (List Tr) × (List Bool) × Nat) (fun k' x => k' ≤ k11 ∧ arena_Open_l1 k' p0 w0_1 w0_3 v13 x.1 x.2.1 x.2.2.1 = some r) (fun x => [(4, (.slc (p0.flatMap S_Cell.cs) p0.length false)), (5, (.row o4 w0_3.length)), (6, (.row o6 x.2.2.1.length)), (7, (.i w0_1)), (9, (.ref o15 0)), (29, (.slc (p0.flatMap S_Cell.cs) p0.length false)), (30, (.i (((p0.length : Nat) : Int)))), (31, (.i w0_1)), (47, (.slc (v13.fKids.map AV.i) v13.fKids.length false)), (48, (.i (((v13.fKids.length : Nat) : Int)))), (49, (.i x.1))]) (fun x => [(x.2.2.2, .row 25 1 (x.2.1.map AV.tree) 0), (o15, .row 34 5 [(.i v13.fKind), (.i v13.fN), (.s v13.fName), (.s v13.fMark), (.row x.2.2.2 x.2.1.length)] 0), (o14, .row 58 5 [(.i v13.fKind), (.i v13.fN), (.s v13.fName), (.s v13.fMark), (.slc (v13.fKids.map AV.i) v13.fKids.length false)] 0), (o6, .row 4 1 (x.2.2.1.map AV.b) 0), (o4, .row 25 1 (w0_3.map AV.tree) 0)]) (fun x hx => by cases hx.2) ?_ k11 (0, ([] : List Tr), w0_2, o18) ⟨Nat.le_refl _, h⟩ (by kernel_rfl) rfl
        clear h
        rintro k23 ⟨w1_2, w1_3, w1_4, i1_1⟩ ⟨hlek23, h⟩
        refine aw_seq ?_
        refine aw_reg ?_
        refine at_run tt_ok 1 [(4, (.slc (p0.flatMap S_Cell.cs) p0.length false)), (5, (.row o4 w0_3.length)), (6, (.row o6 w1_4.length)), (7, (.i w0_1)), (9, (.ref o15 0)), (29, (.slc (p0.flatMap S_Cell.cs) p0.length false)), (30, (.i (((p0.length : Nat) : Int)))), (31, (.i w0_1)), (47, (.slc (v13.fKids.map AV.i) v13.fKids.length false)), (48, (.i (((v13.fKids.length : Nat) : Int)))), (49, (.i w1_2)), (50, (.b ((decide (w1_2 < (((v13.fKids.length : Nat) : Int)))))))] rfl (by kernel_rfl) ?_
        refine at_end rfl ?_
        refine aw_seq ?_
        refine aw_cond ((decide (w1_2 < (((v13.fKids.length : Nat) : Int))))) rfl (fun hb24 => ?_) (fun hb24 => ?_)
        · have h := ite_t hb24 h
          refine aw_skip ?_
          refine aw_seq ?_
          refine aw_block ?_
          refine aw_seq ?_
          refine aw_reg ?_
          obtain ⟨v25, hv25, h⟩ := bind_some' h
          refine at_one rfl rfl rfl (aop_idx1 (k := .i64) (g := AV.i) (l := v13.fKids) (fu := false) (j := w1_2) (v := v25) tt_ok rfl rfl rfl rfl rfl hv25) ?_
          refine at_run tt_ok 3 [(4, (.slc (p0.flatMap S_Cell.cs) p0.length false)), (5, (.row o4 w0_3.length)), (6, (.row o6 w1_4.length)), (7, (.i w0_1)), (9, (.ref o15 0)), (11, (.i v25)), (29, (.slc (p0.flatMap S_Cell.cs) p0.length false)), (30, (.i (((p0.length : Nat) : Int)))), (31, (.i w0_1)), (47, (.slc (v13.fKids.map AV.i) v13.fKids.length false)), (48, (.i (((v13.fKids.length : Nat) : Int)))), (49, (.i w1_2))] rfl (by kernel_rfl) ?_
          refine at_end rfl ?_
          refine aw_seq ?_
          refine aw_seq ?_
          refine aw_reg ?_
          refine at_run tt_ok 3 [(4, (.slc (p0.flatMap S_Cell.cs) p0.length false)), (5, (.row o4 w0_3.length)), (6, (.row o6 w1_4.length)), (7, (.i w0_1)), (9, (.ref o15 0)), (11, (.i v25)), (29, (.slc (p0.flatMap S_Cell.cs) p0.length false)), (30, (.i (((p0.length : Nat) : Int)))), (31, (.i w0_1)), (47, (.slc (v13.fKids.map AV.i) v13.fKids.length false)), (48, (.i (((v13.fKids.length : Nat) : Int)))), (49, (.i w1_2)), (55, (.b ((decide (v25 < 0)))))] rfl (by kernel_rfl) ?_
          by_cases hb26 : (decide (v25 < 0)) = true
          · have h := ite_t hb26 h
            refine at_setb 55 rfl hb26 ?_
            refine at_run tt_ok 13 [(4, (.slc (p0.flatMap S_Cell.cs) p0.length false)), (5, (.row o4 w0_3.length)), (6, (.row o6 w1_4.length)), (7, (.i w0_1)), (9, (.ref o15 0)), (11, (.i v25)), (29, (.slc (p0.flatMap S_Cell.cs) p0.length false)), (30, (.i (((p0.length : Nat) : Int)))), (31, (.i w0_1)), (47, (.slc (v13.fKids.map AV.i) v13.fKids.length false)), (48, (.i (((v13.fKids.length : Nat) : Int)))), (49, (.i w1_2)), (65, (.b true))] rfl (by kernel_rfl) ?_
            refine at_end rfl ?_
            refine aw_cond true rfl (fun _ => ?_) (fun h => by cases h)
            refine aw_seq ?_
            refine aw_reg ?_
            refine at_run tt_ok 2 [(2, .nil), (3, (.i 16))] rfl (by kernel_rfl) ?_
            refine at_end rfl ?_
            refine aw_ret ?_
            obtain rfl := Option.some.inj h
            exact ⟨(.tup [.nil, (.i 16)]), (.tup [(.tree (.nil)), (.i 16)]), _, (res_tmps (by kernel_rfl)), (View.tup (VW.cons (View.of_weak Weak.nil_tree) (VW.same VW.nil))), ⟨_, perm_sel _ [], List.take_sublist 0 _⟩, rfl, rfl⟩
          · have h := ite_f hb26 h
            refine at_setb 55 rfl (nott hb26) ?_
            refine at_run tt_ok 8 [(4, (.slc (p0.flatMap S_Cell.cs) p0.length false)), (5, (.row o4 w0_3.length)), (6, (.row o6 w1_4.length)), (7, (.i w0_1)), (9, (.ref o15 0)), (11, (.i v25)), (29, (.slc (p0.flatMap S_Cell.cs) p0.length false)), (30, (.i (((p0.length : Nat) : Int)))), (31, (.i w0_1)), (47, (.slc (v13.fKids.map AV.i) v13.fKids.length false)), (48, (.i (((v13.fKids.length : Nat) : Int)))), (49, (.i w1_2)), (56, (.i v25)), (57, (.i w0_1)), (58, (.b ((decide (w0_1 ≤ v25))))), (60, (.b ((decide (w0_1 ≤ v25)))))] rfl (by kernel_rfl) ?_
            by_cases hb27 : (decide (w0_1 ≤ v25)) = true
            · have h := ite_t hb27 h
              refine at_setb 58 rfl hb27 ?_
              refine at_setb 60 rfl hb27 ?_
              refine at_run tt_ok 13 [(4, (.slc (p0.flatMap S_Cell.cs) p0.length false)), (5, (.row o4 w0_3.length)), (6, (.row o6 w1_4.length)), (7, (.i w0_1)), (9, (.ref o15 0)), (11, (.i v25)), (29, (.slc (p0.flatMap S_Cell.cs) p0.length false)), (30, (.i (((p0.length : Nat) : Int)))), (31, (.i w0_1)), (47, (.slc (v13.fKids.map AV.i) v13.fKids.length false)), (48, (.i (((v13.fKids.length : Nat) : Int)))), (49, (.i w1_2)), (56, (.i v25)), (57, (.i w0_1)), (58, (.b true)), (65, (.b true))] rfl (by kernel_rfl) ?_
              refine at_end rfl ?_
              refine aw_cond true rfl (fun _ => ?_) (fun h => by cases h)
              refine aw_seq ?_
              refine aw_reg ?_
              refine at_run tt_ok 2 [(2, .nil), (3, (.i 16))] rfl (by kernel_rfl) ?_
              refine at_end rfl ?_
              refine aw_ret ?_
              obtain rfl := Option.some.inj h
              exact ⟨(.tup [.nil, (.i 16)]), (.tup [(.tree (.nil)), (.i 16)]), _, (res_tmps (by kernel_rfl)), (View.tup (VW.cons (View.of_weak Weak.nil_tree) (VW.same VW.nil))), ⟨_, perm_sel _ [], List.take_sublist 0 _⟩, rfl, rfl⟩
            · have h := ite_f hb27 h
              refine at_setb 58 rfl (nott hb27) ?_
              refine at_setb 60 rfl (nott hb27) ?_
              refine at_run tt_ok 10 [(4, (.slc (p0.flatMap S_Cell.cs) p0.length false)), (5, (.row o4 w0_3.length)), (6, (.row o6 w1_4.length)), (7, (.i w0_1)), (9, (.ref o15 0)), (11, (.i v25)), (29, (.slc (p0.flatMap S_Cell.cs) p0.length false)), (30, (.i (((p0.length : Nat) : Int)))), (31, (.i w0_1)), (47, (.slc (v13.fKids.map AV.i) v13.fKids.length false)), (48, (.i (((v13.fKids.length : Nat) : Int)))), (49, (.i w1_2)), (56, (.i v25)), (57, (.i w0_1)), (58, (.b false)), (60, (.b false)), (61, (.row o6 w1_4.length)), (62, (.i v25))] rfl (by kernel_rfl) ?_
              obtain ⟨v28, hv28, h⟩ := bind_some' h
              refine at_one rfl rfl rfl (aop_rowIdx1 (id := o6) (kd := .i64) (l := w1_4) (j := v25) (v := v28) tt_ok hv28 rfl rfl rfl rfl rfl) ?_
              refine at_one rfl rfl rfl (aop_rowLoad1 (g := AV.b) (l := w1_4) (k := v25) (v := v28) tt_ok hv28 rfl rfl rfl (j := 3) rfl) ?_
              refine at_run tt_ok 13 [(4, (.slc (p0.flatMap S_Cell.cs) p0.length false)), (5, (.row o4 w0_3.length)), (6, (.row o6 w1_4.length)), (7, (.i w0_1)), (9, (.ref o15 0)), (11, (.i v25)), (29, (.slc (p0.flatMap S_Cell.cs) p0.length false)), (30, (.i (((p0.length : Nat) : Int)))), (31, (.i w0_1)), (47, (.slc (v13.fKids.map AV.i) v13.fKids.length false)), (48, (.i (((v13.fKids.length : Nat) : Int)))), (49, (.i w1_2)), (56, (.i v25)), (57, (.i w0_1)), (58, (.b false)), (61, (.row o6 w1_4.length)), (62, (.i v25)), (63, (.ref o6 v25.toNat)), (64, (.b v28)), (65, (.b v28))] rfl (by kernel_rfl) ?_
              refine at_end rfl ?_
              refine aw_cond v28 rfl (fun hb29 => ?_) (fun hb29 => ?_)
              · have h := ite_t hb29 h
                refine aw_seq ?_
                refine aw_reg ?_
                refine at_run tt_ok 2 [(2, .nil), (3, (.i 16))] rfl (by kernel_rfl) ?_
                refine at_end rfl ?_
                refine aw_ret ?_
                obtain rfl := Option.some.inj h
                exact ⟨(.tup [.nil, (.i 16)]), (.tup [(.tree (.nil)), (.i 16)]), _, (res_tmps (by kernel_rfl)), (View.tup (VW.cons (View.of_weak Weak.nil_tree) (VW.same VW.nil))), ⟨_, perm_sel _ [], List.take_sublist 0 _⟩, rfl, rfl⟩
              · have h := ite_f (by rw [hb29]; simp) h
                refine aw_skip ?_
                refine aw_seq ?_
                refine aw_reg ?_
                refine at_run tt_ok 2 [(4, (.slc (p0.flatMap S_Cell.cs) p0.length false)), (5, (.row o4 w0_3.length)), (6, (.row o6 w1_4.length)), (7, (.i w0_1)), (9, (.ref o15 0)), (11, (.i v25)), (29, (.slc (p0.flatMap S_Cell.cs) p0.length false)), (30, (.i (((p0.length : Nat) : Int)))), (31, (.i w0_1)), (47, (.slc (v13.fKids.map AV.i) v13.fKids.length false)), (48, (.i (((v13.fKids.length : Nat) : Int)))), (49, (.i w1_2)), (56, (.i v25)), (57, (.i w0_1)), (58, (.b false)), (61, (.row o6 w1_4.length)), (62, (.i v25)), (63, (.ref o6 v25.toNat)), (64, (.b v28)), (66, (.row o6 w1_4.length)), (67, (.i v25))] rfl (by kernel_rfl) ?_
                obtain ⟨v30, hv30, h⟩ := bind_some' h
                refine at_one rfl rfl rfl (aop_rowIdx1 (id := o6) (kd := .i64) (l := w1_4) (j := v25) (v := v30) tt_ok hv30 rfl rfl rfl rfl rfl) ?_
                refine at_one rfl rfl rfl (aop_rowStore1 (g := AV.b) (l := w1_4) (k := v25) (v := v30) (u := true) (y' := (.b true)) tt_ok hv30 rfl rfl rfl rfl (View.refl _) rfl (j := 3) rfl) ?_
                refine at_end rfl ?_
                refine aw_normal [(4, (.slc (p0.flatMap S_Cell.cs) p0.length false)), (5, (.row o4 w0_3.length)), (6, (.row o6 ((w1_4.set v25.toNat true)).length)), (7, (.i w0_1)), (9, (.ref o15 0)), (11, (.i v25)), (29, (.slc (p0.flatMap S_Cell.cs) p0.length false)), (30, (.i (((p0.length : Nat) : Int)))), (31, (.i w0_1)), (47, (.slc (v13.fKids.map AV.i) v13.fKids.length false)), (48, (.i (((v13.fKids.length : Nat) : Int)))), (49, (.i w1_2)), (56, (.i v25)), (57, (.i w0_1)), (58, (.b false)), (61, (.row o6 ((w1_4.set v25.toNat true)).length)), (62, (.i v25)), (63, (.ref o6 v25.toNat)), (64, (.b v28))] (s' := [(i1_1, .row 25 1 (w1_3.map AV.tree) 0), (o15, .row 34 5 [(.i v13.fKind), (.i v13.fN), (.s v13.fName), (.s v13.fMark), (.row i1_1 w1_3.length)] 0), (o14, .row 58 5 [(.i v13.fKind), (.i v13.fN), (.s v13.fName), (.s v13.fMark), (.slc (v13.fKids.map AV.i) v13.fKids.length false)] 0), (o6, .row 4 1 (((w1_4.set v25.toNat true)).map AV.b) 0), (o4, .row 25 1 (w0_3.map AV.tree) 0)]) (by (try simp only [List.length_set]); kernel_rfl) (by first | rfl | (simp only [List.length_set]; rfl)) ?_
                refine aw_draw mixed (by kernel_rfl) ?_
                refine j_run tt_ok [0, 1, 2, 3, 5, 6] [6, 5, 3, 2, 1, 0] (by kernel_rfl) ?_
                refine j_light1 4 (o15, .row 34 5 [(.i v13.fKind), (.i v13.fN), (.s v13.fName), (.s v13.fMark), (.row i1_1 w1_3.length)] 0) rfl (by kernel_rfl) rfl (by kernel_rfl) (fun s hq => (aop_loadM (av := (.row i1_1 w1_3.length)) (off := 4) tt_ok hq rfl (by kernel_rfl) (by kernel_rfl))) (j := 1) rfl ?_
                obtain ⟨v32, hv32, h⟩ := bind_some' h
                refine j_light0 7 rfl (by kernel_rfl) rfl (by kernel_rfl) (fun s => (aop_rowIdx1 (id := o4) (kd := .i64) (l := w0_3) (j := v25) (v := v32) tt_ok hv32 rfl rfl rfl (by kernel_rfl) (by kernel_rfl))) ?_
                refine j_light1 8 (o4, .row 25 1 (w0_3.map AV.tree) 0) rfl (by kernel_rfl) rfl (by kernel_rfl) (fun s hq => (aop_rowLoadM (g := AV.tree) (l := w0_3) (k := v25) (v := v32) tt_ok hq hv32 rfl rfl (by kernel_rfl))) (j := 4) rfl ?_
                refine j_run tt_ok [9] [9, 8, 7, 4, 6, 5, 3, 2, 1, 0] (by kernel_rfl) ?_
                obtain ⟨v35, hv35, h⟩ := bind_some' h
                refine .heavy 10 _ _ rfl (by kernel_rfl) rfl (by kernel_rfl) (aop_app1 (g := AV.tree) (l := w1_3) (d := ([v32] : List Tr)) (v := v35) (f := true) (id := i1_1) (j := 0) tt_ok hv35 rfl rfl rfl rfl rfl rfl rfl (by kernel_rfl) (by kernel_rfl) rfl) ?_ ?_
                · rintro _ _ ⟨o36, rfl, rfl⟩ l hl
                  rcases List.mem_cons.1 hl with rfl | hl
                  · exact .inr (fun p hp => by rw [List.mem_singleton.1 hp]; exact List.mem_of_getElem? (i := 4) rfl)
                  · rcases List.mem_cons.1 hl with rfl | hl
                    · exact .inl (by kernel_rfl)
                    · cases hl
                rintro _ _ ⟨o36, rfl, rfl⟩
                refine j_run tt_ok [11, 12] [12, 11, 10, 9, 8, 7, 4, 6, 5, 3, 2, 1, 0] (by kernel_rfl) ?_
                refine .heavy 13 _ _ rfl (by kernel_rfl) rfl (by kernel_rfl) (aop_storeRef (id := o15) (off := 4) (j := 1) (ds := [(.row o36 v35.length)]) tt_ok rfl (by kernel_rfl) rfl (by kernel_rfl) rfl) ?_ ?_
                · rintro _ _ ⟨rfl, rfl⟩ l hl
                  rcases List.mem_cons.1 hl with rfl | hl
                  · exact .inl (by kernel_rfl)
                  · rcases List.mem_cons.1 hl with rfl | hl
                    · exact .inl (by kernel_rfl)
                    · cases hl
                rintro _ _ ⟨rfl, rfl⟩
                refine .done (by kernel_rfl) ?_
                refine aw_normal [(4, (.slc (p0.flatMap S_Cell.cs) p0.length false)), (5, (.row o4 w0_3.length)), (6, (.row o6 ((w1_4.set v25.toNat true)).length)), (7, (.i w0_1)), (9, (.ref o15 0)), (29, (.slc (p0.flatMap S_Cell.cs) p0.length false)), (30, (.i (((p0.length : Nat) : Int)))), (31, (.i w0_1)), (47, (.slc (v13.fKids.map AV.i) v13.fKids.length false)), (48, (.i (((v13.fKids.length : Nat) : Int)))), (49, (.i w1_2)), (56, (.i v25)), (57, (.i w0_1)), (58, (.b false)), (61, (.row o6 ((w1_4.set v25.toNat true)).length)), (62, (.i v25)), (63, (.ref o6 v25.toNat)), (64, (.b v28))] (s' := [(o36, .row 25 1 (v35.map AV.tree) 0), (o15, .row 34 5 [(.i v13.fKind), (.i v13.fN), (.s v13.fName), (.s v13.fMark), (.row o36 v35.length)] 0), (o14, .row 58 5 [(.i v13.fKind), (.i v13.fN), (.s v13.fName), (.s v13.fMark), (.slc (v13.fKids.map AV.i) v13.fKids.length false)] 0), (o6, .row 4 1 (((w1_4.set v25.toNat true)).map AV.b) 0), (o4, .row 25 1 (w0_3.map AV.tree) 0)]) (by kernel_rfl) rfl ?_
                refine aw_reg ?_
                refine at_run tt_ok 2 [(4, (.slc (p0.flatMap S_Cell.cs) p0.length false)), (5, (.row o4 w0_3.length)), (6, (.row o6 ((w1_4.set v25.toNat true)).length)), (7, (.i w0_1)), (9, (.ref o15 0)), (29, (.slc (p0.flatMap S_Cell.cs) p0.length false)), (30, (.i (((p0.length : Nat) : Int)))), (31, (.i w0_1)), (47, (.slc (v13.fKids.map AV.i) v13.fKids.length false)), (48, (.i (((v13.fKids.length : Nat) : Int)))), (49, (.i ((IntKind.i64.wrap (w1_2 + 1))))), (56, (.i v25)), (57, (.i w0_1)), (58, (.b false)), (61, (.row o6 ((w1_4.set v25.toNat true)).length)), (62, (.i v25)), (63, (.ref o6 v25.toNat)), (64, (.b v28))] rfl (by kernel_rfl) ?_
                refine at_end rfl ?_
                exact ⟨k23, ((IntKind.i64.wrap (w1_2 + 1)), v35, (w1_4.set v25.toNat true), o36), [0, 0, 0, 0, 0], [], by omega, ⟨by omega, h⟩, by kernel_rfl, rfl⟩
        · have h := ite_f (by rw [hb24]; simp) h
          refine aw_exit ?_
          refine aw_shift (Shift.frz (j := 0) rfl) ?_
          refine aw_shift (Shift.cell (j := 1) 4 rfl rfl (View.row (j := 0) rfl (fun h => by rw [List.eq_nil_of_length_eq_zero h]; rfl))) ?_
          refine aw_shift (Shift.frz (j := 1) rfl) ?_
          refine aw_reg ?_
          refine at_run tt_ok 3 [(4, (.slc (p0.flatMap S_Cell.cs) p0.length false)), (5, (.row o4 w0_3.length)), (6, (.row o6 w1_4.length)), (29, (.slc (p0.flatMap S_Cell.cs) p0.length false)), (30, (.i (((p0.length : Nat) : Int)))), (31, (.i w0_1)), (83, (.row o4 w0_3.length)), (84, (.i w0_1)), (85, (.ref o15 0))] rfl (by kernel_rfl) ?_
          obtain ⟨v87, hv87, h⟩ := bind_some' h
          refine at_one rfl rfl rfl (aop_rowIdx1 (id := o4) (kd := .i64) (l := w0_3) (j := w0_1) (v := v87) tt_ok hv87 rfl rfl rfl rfl rfl) ?_
          refine at_one rfl rfl rfl (aop_rowStore1 (g := AV.tree) (l := w0_3) (k := w0_1) (v := v87) (u := (.node v13.fKind v13.fN v13.fName v13.fMark w1_3)) (y' := (.ref o15 0)) tt_ok hv87 rfl rfl rfl rfl ((View.ref (j := 1) rfl).trans (View.of_weak (Weak.node_tree _ _ _ _ _))) rfl (j := 4) rfl) ?_
          refine at_end rfl ?_
          refine aw_normal [(4, (.slc (p0.flatMap S_Cell.cs) p0.length false)), (5, (.row o4 ((w0_3.set w0_1.toNat ((.node v13.fKind v13.fN v13.fName v13.fMark w1_3)))).length)), (6, (.row o6 w1_4.length)), (29, (.slc (p0.flatMap S_Cell.cs) p0.length false)), (30, (.i (((p0.length : Nat) : Int)))), (31, (.i w0_1))] (s' := [(i1_1, .row 25 1 (w1_3.map AV.tree) (w1_3.map AV.tree).length), (o15, .row 34 5 [(.i v13.fKind), (.i v13.fN), (.s v13.fName), (.s v13.fMark), (.slc (w1_3.map AV.tree) w1_3.length false)] 5), (o14, .row 58 5 [(.i v13.fKind), (.i v13.fN), (.s v13.fName), (.s v13.fMark), (.slc (v13.fKids.map AV.i) v13.fKids.length false)] 0), (o6, .row 4 1 (w1_4.map AV.b) 0), (o4, .row 25 1 (((w0_3.set w0_1.toNat ((.node v13.fKind v13.fN v13.fName v13.fMark w1_3)))).map AV.tree) 0)]) (by (try simp only [List.length_set]); kernel_rfl) (by first | rfl | (simp only [List.length_set]; rfl)) ?_
          refine aw_reg ?_
          refine at_run tt_ok 2 [(4, (.slc (p0.flatMap S_Cell.cs) p0.length false)), (5, (.row o4 ((w0_3.set w0_1.toNat ((.node v13.fKind v13.fN v13.fName v13.fMark w1_3)))).length)), (6, (.row o6 w1_4.length)), (29, (.slc (p0.flatMap S_Cell.cs) p0.length false)), (30, (.i (((p0.length : Nat) : Int)))), (31, (.i ((IntKind.i64.wrap (w0_1 + 1)))))] rfl (by kernel_rfl) ?_
          refine at_end rfl ?_
          exact ⟨k23, ((IntKind.i64.wrap (w0_1 + 1)), w1_4, (w0_3.set w0_1.toNat ((.node v13.fKind v13.fN v13.fName v13.fMark w1_3)))), [3, 3], [(i1_1, .row 25 1 (w1_3.map AV.tree) (w1_3.map AV.tree).length), (o15, .row 34 5 [(.i v13.fKind), (.i v13.fN), (.s v13.fName), (.s v13.fMark), (.slc (w1_3.map AV.tree) w1_3.length false)] 5), (o14, .row 58 5 [(.i v13.fKind), (.i v13.fN), (.s v13.fName), (.s v13.fMark), (.slc (v13.fKids.map AV.i) v13.fKids.length false)] 0)], by omega, ⟨by omega, h⟩, by kernel_rfl, rfl⟩
      · have h := ite_f (by rw [hb12]; simp) h
        refine aw_exit ?_
        refine aw_seq ?_
        refine aw_reg ?_
        refine at_run tt_ok 4 [(5, (.row o4 w0_3.length)), (6, (.row o6 w0_2.length)), (12, (.i ((IntKind.i64.wrap ((((p0.length : Nat) : Int)) - 1)))))] rfl (by kernel_rfl) ?_
        refine at_end rfl ?_
        refine aw_seq ?_
        refine aw_seq ?_
        refine aw_shift (Shift.frz (j := 0) rfl) ?_
        refine aw_shift (Shift.view 6 rfl (View.row (j := 0) rfl (fun h => by rw [List.eq_nil_of_length_eq_zero h]; rfl))) ?_
        refine aw_reg ?_
        refine at_run tt_ok 2 [(5, (.row o4 w0_3.length)), (12, (.i ((IntKind.i64.wrap ((((p0.length : Nat) : Int)) - 1))))), (91, (.slc (w0_2.map AV.b) w0_2.length false)), (92, (.i ((IntKind.i64.wrap ((((p0.length : Nat) : Int)) - 1)))))] rfl (by kernel_rfl) ?_
        obtain ⟨v139, hv139, h⟩ := bind_some' h
        refine at_one rfl rfl rfl (aop_sub1 (g := AV.b) (l := w0_2) (fu := false) (a1 := 0) (b1 := (IntKind.i64.wrap ((((p0.length : Nat) : Int)) - 1))) (v := v139) tt_ok hv139 rfl rfl rfl rfl rfl rfl) ?_
        obtain ⟨v140, hc141, h⟩ := bind_some' h
        refine at_op rfl rfl rfl (aop_call (first := []) (caps := []) (xs := [(.slc (v139.map AV.b) v139.length false), (.b false)]) (args' := [(.slc (v139.map AV.b) v139.length false), (.b false)]) (sm := []) (r := [(o6, .row 4 1 (w0_2.map AV.b) (w0_2.map AV.b).length), (o4, .row 25 1 (w0_3.map AV.tree) 0)]) rfl (by kernel_rfl) Try.func33 rfl rfl (slices_Contains_ok k11 v139 false _ hc141) (by kernel_rfl) (VW.refl _) (permTo [] (by kernel_rfl))) ?_
        rintro _ _ ⟨_, ⟨rfl, rfl⟩, rfl⟩
        refine at_end rfl ?_
        refine aw_normal [(5, (.row o4 w0_3.length)), (12, (.i ((IntKind.i64.wrap ((((p0.length : Nat) : Int)) - 1))))), (94, (.b v140))] (s' := [(o6, .row 4 1 (w0_2.map AV.b) (w0_2.map AV.b).length), (o4, .row 25 1 (w0_3.map AV.tree) 0)]) (by kernel_rfl) rfl ?_
        refine aw_cond v140 rfl (fun hb142 => ?_) (fun hb142 => ?_)
        · have h := ite_t hb142 h
          refine aw_seq ?_
          refine aw_reg ?_
          refine at_run tt_ok 2 [(2, .nil), (3, (.i 16))] rfl (by kernel_rfl) ?_
          refine at_end rfl ?_
          refine aw_ret ?_
          obtain rfl := Option.some.inj h
          exact ⟨(.tup [.nil, (.i 16)]), (.tup [(.tree (.nil)), (.i 16)]), _, (res_tmps (by kernel_rfl)), (View.tup (VW.cons (View.of_weak Weak.nil_tree) (VW.same VW.nil))), ⟨_, perm_sel _ [], List.take_sublist 0 _⟩, rfl, rfl⟩
        · have h := ite_f (by rw [hb142]; simp) h
          refine aw_skip ?_
          refine aw_seq ?_
          refine aw_reg ?_
          refine at_run tt_ok 2 [(95, (.row o4 w0_3.length)), (96, (.i ((IntKind.i64.wrap ((((p0.length : Nat) : Int)) - 1)))))] rfl (by kernel_rfl) ?_
          obtain ⟨v143, hv143, h⟩ := bind_some' h
          refine at_one rfl rfl rfl (aop_rowIdx1 (id := o4) (kd := .i64) (l := w0_3) (j := (IntKind.i64.wrap ((((p0.length : Nat) : Int)) - 1))) (v := v143) tt_ok hv143 rfl rfl rfl rfl rfl) ?_
          refine at_one rfl rfl rfl (aop_rowLoad1 (g := AV.tree) (l := w0_3) (k := (IntKind.i64.wrap ((((p0.length : Nat) : Int)) - 1))) (v := v143) tt_ok hv143 rfl rfl rfl (j := 1) rfl) ?_
          refine at_run tt_ok 6 [(2, (.tree v143)), (3, (.i 0))] rfl (by kernel_rfl) ?_
          refine at_end rfl ?_
          refine aw_ret ?_
          obtain rfl := Option.some.inj h
          exact ⟨(.tup [(.tree v143), (.i 0)]), (.tup [(.tree v143), (.i 0)]), _, (res_tmps (by kernel_rfl)), (View.refl _), ⟨_, perm_sel _ [], List.take_sublist 0 _⟩, rfl, rfl⟩
def ref04_cells_S (K : Nat) : Prop := ∀ (p0 : Tr) (p1 : Int) (r : (List S_Cell)), ref04_cells K p0 p1 = some r → ACalls Try.prog 37 [(.tree p0), (.i p1)] [] (fun av s => av = (.slc (r.flatMap S_Cell.cs) r.length false) ∧ s = [])
theorem ref04_cells_step (K : Nat) (IH : ∀ j, j < K → ref04_cells_S j) : ref04_cells_S K := by
  intro p0 p1 r h
  cases K with
  | zero => cases h
  | succ k0 =>
  refine acalls_enter Try.func37 rfl rfl ?_
  refine aw_seq ?_
  refine aw_normal [(0, (.tree p0)), (1, (.i p1))] (s' := []) (by kernel_rfl) rfl ?_
  refine aw_reg ?_
  refine at_run tt_ok 1 [(0, (.tree p0)), (1, (.i p1))] rfl (by kernel_rfl) ?_
  refine at_end rfl ?_
  refine aw_seq ?_
  refine aw_reg ?_
  refine at_run tt_ok 1 [(0, (.tree p0)), (1, (.i p1)), (5, (.lit (.slice none 0 0)))] rfl (by kernel_rfl) ?_
  refine at_end rfl ?_
  refine aw_seq ?_
  refine aw_draw mixed (by kernel_rfl) ?_
  refine j_run tt_ok [0, 4, 8, 12] [12, 8, 4, 0] (by kernel_rfl) ?_
  cases p0 with
  | nil =>
    cases h
  | node n3 n4 n5 n6 n7 =>
    refine j_run tt_ok [1, 2, 3, 5, 6, 7, 9, 10, 11, 13, 14, 15, 16] [16, 15, 14, 13, 11, 10, 9, 7, 6, 5, 3, 2, 1, 12, 8, 4, 0] (by kernel_rfl) ?_
    refine .heavy 17 _ _ rfl (by kernel_rfl) rfl (by kernel_rfl) (aop_alloc (zs := [(.int .i64 0), (.int .i64 0), (.string ⟨#[]⟩), (.string ⟨#[]⟩), (.slice none 0 0)]) tt_ok rfl rfl rfl) ?_ ?_
    · rintro _ _ ⟨o9, rfl, rfl⟩ l hl
      cases hl
    rintro _ _ ⟨o9, rfl, rfl⟩
    refine .heavy 18 _ _ rfl (by kernel_rfl) rfl (by kernel_rfl) (aop_storeRef (id := o9) (off := 0) (j := 0) (ds := [(.i n3), (.i n4), (.s n5), (.s n6), (.lit (.slice none 0 0))]) tt_ok rfl (by kernel_rfl) rfl (by kernel_rfl) rfl) ?_ ?_
    · rintro _ _ ⟨rfl, rfl⟩ l hl
      cases hl
    rintro _ _ ⟨rfl, rfl⟩
    refine .done (by kernel_rfl) ?_
    refine aw_seq ?_
    refine aw_seq ?_
    refine aw_normal [(0, (.tree ((.node n3 n4 n5 n6 n7)))), (1, (.i p1)), (5, (.lit (.slice none 0 0))), (6, (.ref o9 0))] (s' := [(o9, .row 58 5 [(.i n3), (.i n4), (.s n5), (.s n6), (.lit (.slice none 0 0))] 0)]) (by kernel_rfl) rfl ?_
    refine aw_reg ?_
    refine at_run tt_ok 1 [(0, (.tree ((.node n3 n4 n5 n6 n7)))), (1, (.i p1)), (5, (.lit (.slice none 0 0))), (6, (.ref o9 0)), (7, (.i 0))] rfl (by kernel_rfl) ?_
    refine at_end rfl ?_
    refine aw_block ?_
    refine aw_adopt 5 58 5 rfl (fun o11 => ?_)
    refine aw_normal [(0, (.tree ((.node n3 n4 n5 n6 n7)))), (1, (.i p1)), (5, (.row o11 (([] : List S_Cell)).length)), (6, (.ref o9 0)), (7, (.i 0))] (s' := [(o11, .row 58 5 ((([] : List S_Cell)).flatMap S_Cell.cs) 0), (o9, .row 58 5 [(.i n3), (.i n4), (.s n5), (.s n6), (.lit (.slice none 0 0))] 0)]) (by kernel_rfl) rfl ?_
    refine aw_adoptCell (j := 1) 4 3 1 rfl rfl (fun o16 => ?_)
    refine aw_normal [(0, (.tree ((.node n3 n4 n5 n6 n7)))), (1, (.i p1)), (5, (.row o11 (([] : List S_Cell)).length)), (6, (.ref o9 0)), (7, (.i 0))] (s' := [(o16, .row 3 1 ((([] : List Int)).map AV.i) 0), (o11, .row 58 5 ((([] : List S_Cell)).flatMap S_Cell.cs) 0), (o9, .row 58 5 [(.i n3), (.i n4), (.s n5), (.s n6), (.row o16 (([] : List Int)).length)] 0)]) (by kernel_rfl) rfl ?_
    refine aw_loop_ind' (X := Int × (List Int) × (List S_Cell) × Nat × Nat) (fun k' x => k' ≤ k0 ∧ ref04_cells_l0 k' p1 n3 n4 n5 n6 n7 x.1 x.2.1 x.2.2.1 = some r) (fun x => [(0, (.tree ((.node n3 n4 n5 n6 n7)))), (1, (.i p1)), (5, (.row x.2.2.2.2 x.2.2.1.length)), (6, (.ref o9 0)), (7, (.i x.1))]) (fun x => [(x.2.2.2.1, .row 3 1 (x.2.1.map AV.i) 0), (x.2.2.2.2, .row 58 5 (x.2.2.1.flatMap S_Cell.cs) 0), (o9, .row 58 5 [(.i n3), (.i n4), (.s n5), (.s n6), (.row x.2.2.2.1 x.2.1.length)] 0)]) (fun x hx => by cases hx.2) ?_ k0 (0, ([] : List Int), ([] : List S_Cell), o16, o11) ⟨Nat.le_refl _, h⟩ (by kernel_rfl) rfl
    clear h
    rintro k20 ⟨w0_3, w0_4, w0_5, i0_1, i0_2⟩ ⟨hlek20, h⟩
    refine aw_seq ?_
    refine aw_seq ?_
    refine aw_reg ?_
    refine at_run tt_ok 7 [(0, (.tree ((.node n3 n4 n5 n6 n7)))), (1, (.i p1)), (5, (.row i0_2 w0_5.length)), (6, (.ref o9 0)), (7, (.i w0_3)), (31, (.b ((decide (w0_3 < (((n7.length : Nat) : Int)))))))] rfl (by kernel_rfl) ?_
    refine at_end rfl ?_
    refine aw_cond ((decide (w0_3 < (((n7.length : Nat) : Int))))) rfl (fun hb21 => ?_) (fun hb21 => ?_)
    · have h := ite_t hb21 h
      refine aw_skip ?_
      refine aw_seq ?_
      refine aw_block ?_
      refine aw_seq ?_
      refine aw_reg ?_
      refine at_run tt_ok 6 [(0, (.tree ((.node n3 n4 n5 n6 n7)))), (1, (.i p1)), (5, (.row i0_2 w0_5.length)), (6, (.ref o9 0)), (7, (.i w0_3)), (34, (.row i0_2 w0_5.length)), (38, (.slc (n7.map AV.tree) n7.length false)), (39, (.i w0_3))] rfl (by kernel_rfl) ?_
      obtain ⟨v22, hv22, h⟩ := bind_some' h
      refine at_one rfl rfl rfl (aop_idx1 (k := .i64) (g := AV.tree) (l := n7) (fu := false) (j := w0_3) (v := v22) tt_ok rfl rfl rfl rfl rfl hv22) ?_
      refine at_run tt_ok 12 [(0, (.tree ((.node n3 n4 n5 n6 n7)))), (1, (.i p1)), (6, (.ref o9 0)), (7, (.i w0_3)), (34, (.row i0_2 w0_5.length)), (41, (.tree v22)), (45, (.i ((IntKind.i64.wrap (p1 + (((w0_5.length : Nat) : Int)))))))] rfl (by kernel_rfl) ?_
      obtain ⟨v23, hc24, h⟩ := bind_some' h
      refine at_op rfl rfl rfl (aop_call (first := []) (caps := []) (xs := [(.tree v22), (.i ((IntKind.i64.wrap (p1 + (((w0_5.length : Nat) : Int))))))]) (args' := [(.tree v22), (.i ((IntKind.i64.wrap (p1 + (((w0_5.length : Nat) : Int))))))]) (sm := []) (r := [(i0_1, .row 3 1 (w0_4.map AV.i) 0), (i0_2, .row 58 5 (w0_5.flatMap S_Cell.cs) 0), (o9, .row 58 5 [(.i n3), (.i n4), (.s n5), (.s n6), (.row i0_1 w0_4.length)] 0)]) rfl (by kernel_rfl) Try.func37 rfl rfl ((IH k20 (by omega)) v22 ((IntKind.i64.wrap (p1 + (((w0_5.length : Nat) : Int))))) _ hc24) (by kernel_rfl) (VW.refl _) (permTo [] (by kernel_rfl))) ?_
      rintro _ _ ⟨_, ⟨rfl, rfl⟩, rfl⟩
      obtain ⟨v25, hv25, h⟩ := bind_some' h
      refine at_op rfl rfl rfl (aop_appN (g := S_Cell.cs) (l := w0_5) (d := v23) (v := v25) (f := false) (id := i0_2) (j := 1) tt_ok S_Cell.len hv25 rfl rfl rfl rfl rfl rfl rfl rfl rfl rfl) ?_
      rintro _ _ ⟨o26, rfl, rfl⟩
      refine at_run tt_ok 15 [(0, (.tree ((.node n3 n4 n5 n6 n7)))), (1, (.i p1)), (5, (.row o26 v25.length)), (6, (.ref o9 0)), (7, (.i w0_3))] rfl (by kernel_rfl) ?_
      refine at_end rfl ?_
      refine aw_reg ?_
      refine at_run tt_ok 1 [(0, (.tree ((.node n3 n4 n5 n6 n7)))), (1, (.i p1)), (5, (.row o26 v25.length)), (6, (.ref o9 0)), (7, (.i w0_3)), (48, (.ref o9 4))] rfl (by kernel_rfl) ?_
      refine at_one rfl rfl rfl (aop_loadRef (j := 2) (off := 4) (av := (.row i0_1 w0_4.length)) tt_ok rfl rfl rfl rfl) ?_
      refine at_run tt_ok 8 [(0, (.tree ((.node n3 n4 n5 n6 n7)))), (1, (.i p1)), (5, (.row o26 v25.length)), (6, (.ref o9 0)), (7, (.i w0_3)), (49, (.row i0_1 w0_4.length)), (55, (.slc ((([(IntKind.i64.wrap (((IntKind.i64.wrap (p1 + (((v25.length : Nat) : Int))))) - 1))] : List Int)).map AV.i) (([(IntKind.i64.wrap (((IntKind.i64.wrap (p1 + (((v25.length : Nat) : Int))))) - 1))] : List Int)).length true))] rfl (by kernel_rfl) ?_
      obtain ⟨v27, hv27, h⟩ := bind_some' h
      refine at_op rfl rfl rfl (aop_app1 (g := AV.i) (l := w0_4) (d := ([(IntKind.i64.wrap (((IntKind.i64.wrap (p1 + (((v25.length : Nat) : Int))))) - 1))] : List Int)) (v := v27) (f := true) (id := i0_1) (j := 1) tt_ok hv27 rfl rfl rfl rfl rfl rfl rfl rfl rfl rfl) ?_
      rintro _ _ ⟨o28, rfl, rfl⟩
      refine at_run tt_ok 10 [(0, (.tree ((.node n3 n4 n5 n6 n7)))), (1, (.i p1)), (5, (.row o26 v25.length)), (6, (.ref o9 0)), (7, (.i w0_3)), (56, (.row o28 v27.length)), (57, (.ref o9 4))] rfl (by kernel_rfl) ?_
      refine at_one rfl rfl rfl (aop_storeRef (id := o9) (off := 4) (j := 2) (ds := [(.row o28 v27.length)]) tt_ok rfl rfl rfl rfl rfl) ?_
      refine at_end rfl ?_
      refine aw_normal [(0, (.tree ((.node n3 n4 n5 n6 n7)))), (1, (.i p1)), (5, (.row o26 v25.length)), (6, (.ref o9 0)), (7, (.i w0_3))] (s' := [(o28, .row 3 1 (v27.map AV.i) 0), (o26, .row 58 5 (v25.flatMap S_Cell.cs) 0), (o9, .row 58 5 [(.i n3), (.i n4), (.s n5), (.s n6), (.row o28 v27.length)] 0)]) (by kernel_rfl) rfl ?_
      refine aw_reg ?_
      refine at_run tt_ok 3 [(0, (.tree ((.node n3 n4 n5 n6 n7)))), (1, (.i p1)), (5, (.row o26 v25.length)), (6, (.ref o9 0)), (7, (.i ((IntKind.i64.wrap (w0_3 + 1)))))] rfl (by kernel_rfl) ?_
      refine at_end rfl ?_
      exact ⟨k20, ((IntKind.i64.wrap (w0_3 + 1)), v27, v25, o28, o26), [0, 0, 0], [], by omega, ⟨by omega, h⟩, by kernel_rfl, rfl⟩
    · have h := ite_f (by rw [hb21]; simp) h
      refine aw_exit ?_
      refine aw_seq ?_
      refine aw_shift (Shift.frz (j := 0) rfl) ?_
      refine aw_shift (Shift.cell (j := 2) 4 rfl rfl (View.row (j := 0) rfl (fun h => by rw [List.eq_nil_of_length_eq_zero h]; rfl))) ?_
      refine aw_reg ?_
      refine at_run tt_ok 1 [(6, (.ref o9 0)), (58, (.row i0_2 w0_5.length))] rfl (by kernel_rfl) ?_
      refine at_one rfl rfl rfl (aop_loadRef (j := 2) (off := 0) (av := (.agg [(.i n3), (.i n4), (.s n5), (.s n6), (.slc (w0_4.map AV.i) w0_4.length false)])) tt_ok rfl rfl rfl rfl) ?_
      refine at_run tt_ok 3 [(58, (.row i0_2 w0_5.length)), (60, (.slc ((([(⟨n3, n4, n5, n6, w0_4⟩ : S_Cell)] : List S_Cell)).flatMap S_Cell.cs) (([(⟨n3, n4, n5, n6, w0_4⟩ : S_Cell)] : List S_Cell)).length true))] rfl (by kernel_rfl) ?_
      obtain ⟨v79, hv79, h⟩ := bind_some' h
      refine at_op rfl rfl rfl (aop_appN (g := S_Cell.cs) (l := w0_5) (d := ([(⟨n3, n4, n5, n6, w0_4⟩ : S_Cell)] : List S_Cell)) (v := v79) (f := true) (id := i0_2) (j := 1) tt_ok S_Cell.len hv79 rfl rfl rfl rfl rfl rfl rfl rfl rfl rfl) ?_
      rintro _ _ ⟨o80, rfl, rfl⟩
      refine at_run tt_ok 5 [(4, (.row o80 v79.length))] rfl (by kernel_rfl) ?_
      refine at_end rfl ?_
      refine aw_shift (Shift.frz (j := 0) rfl) ?_
      refine aw_shift (Shift.view 4 rfl (View.row (j := 0) rfl (fun h => by rw [List.eq_nil_of_length_eq_zero h]; rfl))) ?_
      refine aw_ret ?_
      obtain rfl := Option.some.inj h
      exact ⟨(.slc (v79.flatMap S_Cell.cs) v79.length false), (.slc (v79.flatMap S_Cell.cs) v79.length false), _, (res_tmps (by kernel_rfl)), (View.refl _), ⟨_, perm_sel _ [], List.take_sublist 0 _⟩, rfl, rfl⟩
theorem ref04_cells_all (K : Nat) : ref04_cells_S K := by
  induction K using Nat.strongRecOn with
  | _ K IH => exact ref04_cells_step K IH
theorem ref04_cells_ok (K : Nat) : ∀ (p0 : Tr) (p1 : Int) (r : (List S_Cell)), ref04_cells K p0 p1 = some r → ACalls Try.prog 37 [(.tree p0), (.i p1)] [] (fun av s => av = (.slc (r.flatMap S_Cell.cs) r.length false) ∧ s = []) := (ref04_cells_all K)
end Go.Proofs.Ythkaeeadihplcaa
