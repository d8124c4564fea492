/- Joined texts: EOk2. -/
import Derived.Test.YtpplkbcfidpbcaaGreatDoorGg
/- That the Go functions come to the printed Lean functions, whatever they are handed. Printed by sxgen.py of this session. -/
namespace Go.Proofs.YtpplkbcfidpbcaaGreatDoor
open Go Go.Am Go.Sx
def g_ref02_inner : Sig := { fid := 111, Γ := [(.int .i32)], args := [(.var 0)], sto := [], nk := 0, nr := 0, Δ := [.bool], res := (.var 0), sto' := [], nk' := 0, f := fun k x => ref02_inner k x }
def h_ref02_inner : Hints (Bool) := { keep := [], ord := [], loops := [], unr := [], adr := [], cuts := [] }
def e_ref02_inner : List Sig := [g_ref01_Class]
set_option maxRecDepth 100000 in
theorem ref02_inner_eq (k : Nat) (x : Int) : ref02_inner k x = fx xt e_ref02_inner g_ref02_inner Tryz.f111 h_ref02_inner (bodyOf Tryz.f111) k x := by kernel_rfl
theorem ref02_inner_ok (K : Nat) : SigOk Tryz.prog g_ref02_inner K := sig_fun (X := xt) (g := g_ref02_inner) (H := h_ref02_inner) (env := e_ref02_inner) (c := bodyOf Tryz.f111) xt_ok mixed (fun k => (AllOk.cons (ref01_Class_ok k) AllOk.nil)) Tryz.func111 (by kernel_rfl) (by kernel_rfl) (by kernel_rfl) (UpTo.all UpTo.zero (by kernel_rfl) (by kernel_rfl)) ref02_inner_eq K
def g_ref02_head : Sig := { fid := 108, Γ := [(.list false (.int .i32)), (.int .i64)], args := [(.var 0), (.var 1)], sto := [], nk := 0, nr := 0, Δ := [(.int .i64)], res := (.var 0), sto' := [], nk' := 0, f := fun k x => ref02_head k x.1 x.2 }
def l_ref02_head_0 : LH (Int) := { Γ := [(.list false (.int .i32)), (.int .i64), (.int .i64)], live := [(0, (.var 0)), (1, (.var 1)), (5, (.var 2))], sto := [], nk := 0, ad := [], F := fun k x => ref02_head_l0 k x.1 x.2.1 x.2.2 }
def h_ref02_head : Hints (Int) := { keep := [], ord := [], loops := [(2, l_ref02_head_0)], unr := [], adr := [], cuts := [] }
def e_ref02_head : List Sig := [g_ref02_inner]
set_option maxRecDepth 100000 in
theorem ref02_head_eq (k : Nat) (x : (List Int) × Int) : ref02_head k x.1 x.2 = fx xt e_ref02_head g_ref02_head Tryz.f108 h_ref02_head (bodyOf Tryz.f108) k x := by kernel_rfl
set_option maxRecDepth 100000 in
theorem ref02_head_l0_eq (k : Nat) (x : (List Int) × Int × Int) : ref02_head_l0 (k + 1) x.1 x.2.1 x.2.2 = lrhs xt e_ref02_head 24 0 h_ref02_head (bodyOf Tryz.f108) (retK xt.T Tryz.f108.results g_ref02_head) 0 l_ref02_head_0 k x := (ref02_head_l0.eq_def (k + 1) x.1 x.2.1 x.2.2).trans (by kernel_rfl)
theorem ref02_head_ok (K : Nat) : SigOk Tryz.prog g_ref02_head K := sig_fun (X := xt) (g := g_ref02_head) (H := h_ref02_head) (env := e_ref02_head) (c := bodyOf Tryz.f108) xt_ok mixed (fun k => (AllOk.cons (ref02_inner_ok k) AllOk.nil)) Tryz.func108 (by kernel_rfl) (by kernel_rfl) (by kernel_rfl) (UpTo.all (UpTo.zero.succ l_ref02_head_0 (by kernel_rfl) (fun _ => rfl) ref02_head_l0_eq) (by kernel_rfl) (by kernel_rfl)) ref02_head_eq K
def g_ref02_name : Sig := { fid := 64, Γ := [(.list false (.int .i32)), (.int .i64)], args := [(.var 0), (.var 1)], sto := [], nk := 0, nr := 0, Δ := [(.int .i64), .str, (.int .i64), (.int .i64), (.int .i64), .bool], res := (.tup [(.agg [(.var 0), (.var 1), (.var 2), (.var 3)]), (.var 4), (.var 5)]), sto' := [], nk' := 0, f := fun k x => ref02_name k x.1 x.2 }
def l_ref02_name_0 : LH (Int × (List UInt8) × Int × Int × Int × Bool) := { Γ := [(.list false (.int .i32)), (.int .i64), (.int .i64), .bool], live := [(0, (.var 0)), (1, (.var 1)), (4, (.ref 0 0)), (7, (.var 2)), (9, (.var 3))], sto := [(0, (.cells 51 4 [(.int .i64 0), (.str []), (.int .i64 0), (.int .i64 0)] false))], nk := 1, ad := [], F := fun k x => ref02_name_l0 k x.1 x.2.1 x.2.2.1 x.2.2.2 }
def h_ref02_name : Hints (Int × (List UInt8) × Int × Int × Int × Bool) := { keep := [], ord := [], loops := [(6, l_ref02_name_0)], unr := [], adr := [], cuts := [] }
def e_ref02_name : List Sig := [g_ref02_head, g_ref02_text, g_ref02_Word, g_ref01_Name]
set_option maxRecDepth 100000 in
theorem ref02_name_eq (k : Nat) (x : (List Int) × Int) : ref02_name k x.1 x.2 = fx xt e_ref02_name g_ref02_name Tryz.f64 h_ref02_name (bodyOf Tryz.f64) k x := by kernel_rfl
set_option maxRecDepth 100000 in
theorem ref02_name_l0_eq (k : Nat) (x : (List Int) × Int × Int × Bool) : ref02_name_l0 (k + 1) x.1 x.2.1 x.2.2.1 x.2.2.2 = lrhs xt e_ref02_name 95 0 h_ref02_name (bodyOf Tryz.f64) (retK xt.T Tryz.f64.results g_ref02_name) 0 l_ref02_name_0 k x := (ref02_name_l0.eq_def (k + 1) x.1 x.2.1 x.2.2.1 x.2.2.2).trans (by kernel_rfl)
theorem ref02_name_ok (K : Nat) : SigOk Tryz.prog g_ref02_name K := sig_fun (X := xt) (g := g_ref02_name) (H := h_ref02_name) (env := e_ref02_name) (c := bodyOf Tryz.f64) xt_ok mixed (fun k => (AllOk.cons (ref02_head_ok k) (AllOk.cons (ref02_text_ok k) (AllOk.cons (ref02_Word_ok k) (AllOk.cons (ref01_Name_ok k) AllOk.nil))))) Tryz.func64 (by kernel_rfl) (by kernel_rfl) (by kernel_rfl) (UpTo.all (UpTo.zero.succ l_ref02_name_0 (by kernel_rfl) (fun _ => rfl) ref02_name_l0_eq) (by kernel_rfl) (by kernel_rfl)) ref02_name_eq K
def g_ref02_Number : Sig := { fid := 76, Γ := [(.int .i64)], args := [(.var 0)], sto := [], nk := 0, nr := 0, Δ := [.str], res := (.var 0), sto' := [], nk' := 0, f := fun k x => ref02_Number k x }
def h_ref02_Number : Hints ((List UInt8)) := { keep := [], ord := [(4, [.l 0, .l 1, .l 3, .l 4, .l 5, .l 6, .l 7, .l 8, .l 9, .h 2, .l 10, .l 11]), (7, [.l 0, .l 1, .l 3, .l 4, .l 5, .l 6, .l 7, .l 8, .h 2, .l 9, .l 10])], loops := [], unr := [], adr := [], cuts := [] }
def e_ref02_Number : List Sig := [g_ref02_Number]
set_option maxRecDepth 100000 in
theorem ref02_Number_eq (k : Nat) (x : Int) : ref02_Number (k + 1) x = fx xt e_ref02_Number g_ref02_Number Tryz.f76 h_ref02_Number (bodyOf Tryz.f76) k x := (ref02_Number.eq_def (k + 1) x).trans (by kernel_rfl)
theorem ref02_Number_all (K : Nat) : SigOk Tryz.prog g_ref02_Number K := by
  induction K using Nat.strongRecOn with
  | ind K ih => exact sig_rec (X := xt) (g := g_ref02_Number) (H := h_ref02_Number) (env := e_ref02_Number) (c := bodyOf Tryz.f76) xt_ok mixed (fun k hk => (AllOk.cons (ih k hk) AllOk.nil)) Tryz.func76 (by kernel_rfl) (by kernel_rfl) (by kernel_rfl) (UpTo.all UpTo.zero (by kernel_rfl) (by kernel_rfl)) (fun _ => rfl) ref02_Number_eq
theorem ref02_Number_ok (K : Nat) : SigOk Tryz.prog g_ref02_Number K := (ref02_Number_all K)
def g_ref02_number : Sig := { fid := 65, Γ := [(.list false (.int .i32)), (.int .i64)], args := [(.var 0), (.var 1)], sto := [], nk := 0, nr := 0, Δ := [(.int .i64), .str, (.int .i64), (.int .i64), (.int .i64), .bool], res := (.tup [(.agg [(.var 0), (.var 1), (.var 2), (.var 3)]), (.var 4), (.var 5)]), sto' := [], nk' := 0, f := fun k x => ref02_number k x.1 x.2 }
def c_ref02_number_0 : LH (Int × (List UInt8) × Int × Int × Int × Bool) := { Γ := [(.list false (.int .i32)), (.int .i64), (.int .i64)], live := [(0, (.var 0)), (1, (.var 1)), (4, (.ref 0 0)), (7, (.var 2))], sto := [(0, (.cells 51 4 [(.int .i64 0), (.str []), (.int .i64 0), (.int .i64 0)] false))], nk := 1, ad := [], F := fun k x => ref02_number_c0 k x.1 x.2.1 x.2.2 }
def l_ref02_number_0 : LH (Int × (List UInt8) × Int × Int × Int × Bool) := { Γ := [(.list false (.int .i32)), (.int .i64), (.int .i64), (.int .i64), (.int .i64)], live := [(0, (.var 0)), (1, (.var 1)), (4, (.ref 0 0)), (7, (.var 2)), (8, (.var 3)), (9, (.var 4))], sto := [(0, (.cells 51 4 [(.int .i64 0), (.str []), (.int .i64 0), (.int .i64 0)] false))], nk := 1, ad := [], F := fun k x => ref02_number_l0 k x.1 x.2.1 x.2.2.1 x.2.2.2.1 x.2.2.2.2 }
def h_ref02_number : Hints (Int × (List UInt8) × Int × Int × Int × Bool) := { keep := [], ord := [], loops := [(6, l_ref02_number_0)], unr := [], adr := [], cuts := [(4, c_ref02_number_0)] }
def e_ref02_number : List Sig := [g_ref01_Class, g_ref02_inner, g_ref02_Number]
set_option maxRecDepth 100000 in
theorem ref02_number_eq (k : Nat) (x : (List Int) × Int) : ref02_number k x.1 x.2 = fx xt e_ref02_number g_ref02_number Tryz.f65 h_ref02_number (bodyOf Tryz.f65) k x := by kernel_rfl
set_option maxRecDepth 100000 in
theorem ref02_number_c0_eq (k : Nat) (x : (List Int) × Int × Int) : ref02_number_c0 (k + 1) x.1 x.2.1 x.2.2 = lrhs xt e_ref02_number 72 0 h_ref02_number (bodyOf Tryz.f65) (retK xt.T Tryz.f65.results g_ref02_number) 0 c_ref02_number_0 k x := (ref02_number_c0.eq_def (k + 1) x.1 x.2.1 x.2.2).trans (by kernel_rfl)
set_option maxRecDepth 100000 in
theorem ref02_number_l0_eq (k : Nat) (x : (List Int) × Int × Int × Int × Int) : ref02_number_l0 (k + 1) x.1 x.2.1 x.2.2.1 x.2.2.2.1 x.2.2.2.2 = lrhs xt e_ref02_number 72 0 h_ref02_number (bodyOf Tryz.f65) (retK xt.T Tryz.f65.results g_ref02_number) 1 l_ref02_number_0 k x := (ref02_number_l0.eq_def (k + 1) x.1 x.2.1 x.2.2.1 x.2.2.2.1 x.2.2.2.2).trans (by kernel_rfl)
theorem ref02_number_ok (K : Nat) : SigOk Tryz.prog g_ref02_number K := sig_fun (X := xt) (g := g_ref02_number) (H := h_ref02_number) (env := e_ref02_number) (c := bodyOf Tryz.f65) xt_ok mixed (fun k => (AllOk.cons (ref01_Class_ok k) (AllOk.cons (ref02_inner_ok k) (AllOk.cons (ref02_Number_ok k) AllOk.nil)))) Tryz.func65 (by kernel_rfl) (by kernel_rfl) (by kernel_rfl) (UpTo.all ((UpTo.zero.succ c_ref02_number_0 (by kernel_rfl) (fun _ => rfl) ref02_number_c0_eq).succ l_ref02_number_0 (by kernel_rfl) (fun _ => rfl) ref02_number_l0_eq) (by kernel_rfl) (by kernel_rfl)) ref02_number_eq K
def g_ref02_signs : Sig := { fid := 66, Γ := [], args := [], sto := [], nk := 0, nr := 0, Δ := [(.list false .str)], res := (.var 0), sto' := [], nk' := 0, f := fun k _ => ref02_signs k }
def h_ref02_signs : Hints ((List (List UInt8))) := { keep := [], ord := [], loops := [], unr := [], adr := [], cuts := [] }
def e_ref02_signs : List Sig := []
set_option maxRecDepth 100000 in
theorem ref02_signs_eq (k : Nat) (x : Unit) : ref02_signs k = fx xt e_ref02_signs g_ref02_signs Tryz.f66 h_ref02_signs (bodyOf Tryz.f66) k x := by kernel_rfl
theorem ref02_signs_ok (K : Nat) : SigOk Tryz.prog g_ref02_signs K := sig_fun (X := xt) (g := g_ref02_signs) (H := h_ref02_signs) (env := e_ref02_signs) (c := bodyOf Tryz.f66) xt_ok mixed (fun k => AllOk.nil) Tryz.func66 (by kernel_rfl) (by kernel_rfl) (by kernel_rfl) (UpTo.all UpTo.zero (by kernel_rfl) (by kernel_rfl)) ref02_signs_eq K
def g_ref02_token : Sig := { fid := 32, Γ := [(.list false (.int .i32)), (.int .i64)], args := [(.var 0), (.var 1)], sto := [], nk := 0, nr := 0, Δ := [(.int .i64), .str, (.int .i64), (.int .i64), (.int .i64), .bool], res := (.tup [(.agg [(.var 0), (.var 1), (.var 2), (.var 3)]), (.var 4), (.var 5)]), sto' := [], nk' := 0, f := fun k x => ref02_token k x.1 x.2 }
def l_ref02_token_0 : LH (Int × (List UInt8) × Int × Int × Int × Bool) := { Γ := [(.list false (.int .i32)), (.int .i64), (.list false .str), .str, (.int .i64)], live := [(0, (.var 0)), (1, (.var 1)), (4, (.ref 0 0)), (8, (.var 2)), (9, (.var 3)), (10, (.var 4))], sto := [(0, (.cells 51 4 [(.int .i64 0), (.str []), (.int .i64 0), (.int .i64 0)] false))], nk := 1, ad := [], F := fun k x => ref02_token_l0 k x.1 x.2.1 x.2.2.1 x.2.2.2.1 x.2.2.2.2 }
def h_ref02_token : Hints (Int × (List UInt8) × Int × Int × Int × Bool) := { keep := [], ord := [(12, [.l 0, .l 1, .l 2, .l 3, .l 4, .l 5, .l 6, .l 7, .l 9, .l 10, .l 11, .l 12, .h 8, .l 13, .l 14, .l 15, .l 16, .l 17, .l 18, .l 19, .l 20, .l 21, .l 22, .l 23, .l 24])], loops := [(9, l_ref02_token_0)], unr := [], adr := [], cuts := [] }
def e_ref02_token : List Sig := [g_ref01_Class, g_ref02_name, g_ref02_number, g_ref02_signs, g_ref02_text]
set_option maxRecDepth 100000 in
theorem ref02_token_eq (k : Nat) (x : (List Int) × Int) : ref02_token k x.1 x.2 = fx xt e_ref02_token g_ref02_token Tryz.f32 h_ref02_token (bodyOf Tryz.f32) k x := by kernel_rfl
set_option maxRecDepth 100000 in
theorem ref02_token_l0_eq (k : Nat) (x : (List Int) × Int × (List (List UInt8)) × (List UInt8) × Int) : ref02_token_l0 (k + 1) x.1 x.2.1 x.2.2.1 x.2.2.2.1 x.2.2.2.2 = lrhs xt e_ref02_token 91 0 h_ref02_token (bodyOf Tryz.f32) (retK xt.T Tryz.f32.results g_ref02_token) 0 l_ref02_token_0 k x := (ref02_token_l0.eq_def (k + 1) x.1 x.2.1 x.2.2.1 x.2.2.2.1 x.2.2.2.2).trans (by kernel_rfl)
theorem ref02_token_ok (K : Nat) : SigOk Tryz.prog g_ref02_token K := sig_fun (X := xt) (g := g_ref02_token) (H := h_ref02_token) (env := e_ref02_token) (c := bodyOf Tryz.f32) xt_ok mixed (fun k => (AllOk.cons (ref01_Class_ok k) (AllOk.cons (ref02_name_ok k) (AllOk.cons (ref02_number_ok k) (AllOk.cons (ref02_signs_ok k) (AllOk.cons (ref02_text_ok k) AllOk.nil)))))) Tryz.func32 (by kernel_rfl) (by kernel_rfl) (by kernel_rfl) (UpTo.all (UpTo.zero.succ l_ref02_token_0 (by kernel_rfl) (fun _ => rfl) ref02_token_l0_eq) (by kernel_rfl) (by kernel_rfl)) ref02_token_eq K
def g_ref02_Lex : Sig := { fid := 14, Γ := [.str], args := [(.var 0)], sto := [], nk := 0, nr := 0, Δ := [(.list false (.pair (.int .i64) (.pair .str (.pair (.int .i64) (.int .i64))))), (.int .i64), (.int .i64)], res := (.tup [(.var 0), (.var 1), (.var 2)]), sto' := [], nk' := 0, f := fun k x => ref02_Lex k x }
def l_ref02_Lex_0 : LH ((List (Int × (List UInt8) × Int × Int)) × Int × Int) := { Γ := [(.list false (.int .i32)), (.list false (.pair (.int .i64) (.pair .str (.pair (.int .i64) (.int .i64))))), (.int .i64)], live := [(7, (.var 0)), (9, (.row 0 1)), (10, (.var 2))], sto := [(0, (.list 51 1 none))], nk := 1, ad := [.t 9 51 (.pair (.int .i64) (.pair .str (.pair (.int .i64) (.int .i64))))], F := fun k x => ref02_Lex_l0 k x.1 x.2.1 x.2.2 }
def c_ref02_Lex_0 : LH ((List (Int × (List UInt8) × Int × Int)) × Int × Int) := { Γ := [(.list false (.int .i32)), (.list false (.pair (.int .i64) (.pair .str (.pair (.int .i64) (.int .i64))))), (.int .i64), .str], live := [(7, (.var 0)), (9, (.row 0 1)), (10, (.var 2)), (11, (.len 3))], sto := [(0, (.list 51 1 none))], nk := 1, ad := [.t 9 51 (.pair (.int .i64) (.pair .str (.pair (.int .i64) (.int .i64))))], F := fun k x => ref02_Lex_c0 k x.1 x.2.1 x.2.2.1 x.2.2.2 }
def h_ref02_Lex : Hints ((List (Int × (List UInt8) × Int × Int)) × Int × Int) := { keep := [], ord := [], loops := [(7, l_ref02_Lex_0)], unr := [], adr := [], cuts := [(15, c_ref02_Lex_0)] }
def e_ref02_Lex : List Sig := [g_ref01_Check, g_ref01_Decode, g_ref02_text, g_ref01_Class, g_ref02_comment, g_ref02_token]
set_option maxRecDepth 100000 in
theorem ref02_Lex_eq (k : Nat) (x : (List UInt8)) : ref02_Lex k x = fx xt e_ref02_Lex g_ref02_Lex Tryz.f14 h_ref02_Lex (bodyOf Tryz.f14) k x := by kernel_rfl
set_option maxRecDepth 100000 in
theorem ref02_Lex_l0_eq (k : Nat) (x : (List Int) × (List (Int × (List UInt8) × Int × Int)) × Int) : ref02_Lex_l0 (k + 1) x.1 x.2.1 x.2.2 = lrhs xt e_ref02_Lex 89 0 h_ref02_Lex (bodyOf Tryz.f14) (retK xt.T Tryz.f14.results g_ref02_Lex) 0 l_ref02_Lex_0 k x := (ref02_Lex_l0.eq_def (k + 1) x.1 x.2.1 x.2.2).trans (by kernel_rfl)
set_option maxRecDepth 100000 in
theorem ref02_Lex_c0_eq (k : Nat) (x : (List Int) × (List (Int × (List UInt8) × Int × Int)) × Int × (List UInt8)) : ref02_Lex_c0 (k + 1) x.1 x.2.1 x.2.2.1 x.2.2.2 = lrhs xt e_ref02_Lex 89 0 h_ref02_Lex (bodyOf Tryz.f14) (retK xt.T Tryz.f14.results g_ref02_Lex) 1 c_ref02_Lex_0 k x := (ref02_Lex_c0.eq_def (k + 1) x.1 x.2.1 x.2.2.1 x.2.2.2).trans (by kernel_rfl)
theorem ref02_Lex_ok (K : Nat) : SigOk Tryz.prog g_ref02_Lex K := sig_fun (X := xt) (g := g_ref02_Lex) (H := h_ref02_Lex) (env := e_ref02_Lex) (c := bodyOf Tryz.f14) xt_ok mixed (fun k => (AllOk.cons (ref01_Check_ok k) (AllOk.cons (ref01_Decode_ok k) (AllOk.cons (ref02_text_ok k) (AllOk.cons (ref01_Class_ok k) (AllOk.cons (ref02_comment_ok k) (AllOk.cons (ref02_token_ok k) AllOk.nil))))))) Tryz.func14 (by kernel_rfl) (by kernel_rfl) (by kernel_rfl) (UpTo.all ((UpTo.zero.succ l_ref02_Lex_0 (by kernel_rfl) (fun _ => rfl) ref02_Lex_l0_eq).succ c_ref02_Lex_0 (by kernel_rfl) (fun _ => rfl) ref02_Lex_c0_eq) (by kernel_rfl) (by kernel_rfl)) ref02_Lex_eq K
def g_law07_PexprReads : Sig := { fid := 4, Γ := [.str], args := [(.var 0)], sto := [], nk := 0, nr := 0, Δ := [.bool], res := (.var 0), sto' := [], nk' := 0, f := fun k x => law07_PexprReads k x }
def h_law07_PexprReads : Hints (Bool) := { keep := [], ord := [], loops := [], unr := [], adr := [], cuts := [] }
def e_law07_PexprReads : List Sig := [g_ref02_Lex, g_law07_works, g_pexpr_Expr, g_ref07_Expr, g_ref04_Same]
set_option maxRecDepth 100000 in
theorem law07_PexprReads_eq (k : Nat) (x : (List UInt8)) : law07_PexprReads k x = fx xt e_law07_PexprReads g_law07_PexprReads Tryz.f4 h_law07_PexprReads (bodyOf Tryz.f4) k x := by kernel_rfl
theorem law07_PexprReads_ok (K : Nat) : SigOk Tryz.prog g_law07_PexprReads K := sig_fun (X := xt) (g := g_law07_PexprReads) (H := h_law07_PexprReads) (env := e_law07_PexprReads) (c := bodyOf Tryz.f4) xt_ok mixed (fun k => (AllOk.cons (ref02_Lex_ok k) (AllOk.cons (law07_works_ok k) (AllOk.cons (pexpr_Expr_ok k) (AllOk.cons (ref07_Expr_ok k) (AllOk.cons (ref04_Same_ok k) AllOk.nil)))))) Tryz.func4 (by kernel_rfl) (by kernel_rfl) (by kernel_rfl) (UpTo.all UpTo.zero (by kernel_rfl) (by kernel_rfl)) law07_PexprReads_eq K
end Go.Proofs.YtpplkbcfidpbcaaGreatDoor

