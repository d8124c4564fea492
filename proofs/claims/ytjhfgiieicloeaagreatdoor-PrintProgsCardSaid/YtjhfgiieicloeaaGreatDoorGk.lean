/- Joined texts: K0, K1, K1p, K3, K4. -/
import Derived.Test.YtjhfgiieicloeaaGreatDoorGq
/- Texts that are not empty, with a blank between: what the program's words comes to. -/
namespace Go.Proofs.YtjhfgiieicloeaaGreatDoor
open Go Go.Am Go.Sx
theorem jw_snoc (l:List (List UInt8)) (c sep:List UInt8):Lib.join (l++[c]) sep=if l=[] then c else Lib.join l sep++sep++c:=by
  cases l with
  | nil=>rw [List.nil_append,Lib.join_one,if_pos rfl]
  | cons x r =>
    rw [List.cons_append,Lib.join_cons,Lib.join_cons,if_neg (by simp)]
    simp [Lib.joinTail]
theorem jtail_cons (sep x:List UInt8) (r:List (List UInt8)):Lib.joinTail sep (x :: r)=sep++x++Lib.joinTail sep r:=by simp [Lib.joinTail]
def ne (s:List UInt8):Bool:=!decide (s=[])
theorem ne_of {s:List UInt8} (h:s≠[]):ne s=true:=by simp [ne,h]
def jf (l:List (List UInt8)):List UInt8:=Lib.join (l.filter ne) [32]
def addW (s w:List UInt8):List UInt8:=if w=[] then s else if s=[] then w else s++[32]++w
theorem jf_e (l:List (List UInt8)):jf ([] :: l)=jf l:=rfl
theorem filt_c {x:List UInt8} {l:List (List UInt8)} (h:x≠[]):(x :: l).filter ne=x :: l.filter ne:=by rw [List.filter_cons,if_pos (ne_of h)]
theorem jf_c {x:List UInt8} {l:List (List UInt8)} (h:x≠[]):jf (x :: l)=x++Lib.joinTail [32] (l.filter ne):=by
  unfold jf
  rw [filt_c h,Lib.join_cons]
theorem jf_none {l:List (List UInt8)}:jf l=[]↔l.filter ne=[]:=by
  constructor
  · intro h
    unfold jf at h
    cases hf:l.filter ne with
    | nil=>rfl
    | cons x r =>
      rw [hf,Lib.join_cons] at h
      have hx:x∈l.filter ne:=by rw [hf]; exact List.mem_cons_self
      have:=(List.mem_filter.1 hx).2
      obtain ⟨rfl,_⟩:=List.append_eq_nil_iff.1 h
      cases this
  · intro h
    unfold jf
    rw [h,Lib.join_nil]
theorem jf_snoc (l:List (List UInt8)) (w:List UInt8):jf (l++[w])=addW (jf l) w:=by
  unfold addW
  by_cases hw:w=[]
  · subst hw
    rw [if_pos rfl]
    unfold jf
    rw [List.filter_append]
    simp [ne]
  · rw [if_neg hw]
    by_cases hl:jf l=[]
    · rw [if_pos hl]
      unfold jf
      rw [List.filter_append,jf_none.1 hl,List.nil_append,filt_c hw]
      exact Lib.join_one w [32]
    · rw [if_neg hl]
      have hl':l.filter ne≠[]:=fun e=>hl (jf_none.2 e)
      unfold jf
      rw [List.filter_append,filt_c hw]
      show Lib.join (l.filter ne++[w]) [32]=_
      rw [jw_snoc,if_neg hl']
def lw:List (List UInt8)→Nat
  | []=>0
  | x :: r=>x.length+1+lw r
theorem tail_lw:∀ l:List (List UInt8),(Lib.joinTail [32] (l.filter ne)).length≤lw l
  | []=>by simp [Lib.joinTail]
  | x :: r=>by
    have ih:=tail_lw r
    by_cases hx:x=[]
    · subst hx
      show (Lib.joinTail [32] (r.filter ne)).length≤0+1+lw r
      omega
    · rw [filt_c hx,jtail_cons,lw]
      simp only [List.length_append,List.length_cons,List.length_nil]
      omega
theorem jf_lw (l:List (List UInt8)):(jf l).length≤lw l:=by
  unfold jf
  have h:=tail_lw l
  cases hf:l.filter ne with
  | nil=>rw [Lib.join_nil]; simp
  | cons x r =>
    rw [hf,jtail_cons] at h
    rw [Lib.join_cons]
    simp only [List.length_append,List.length_cons,List.length_nil] at h ⊢
    omega
theorem lw_len:∀ l:List (List UInt8),l.length≤lw l
  | []=>by simp
  | x :: r=>by have:=lw_len r; rw [lw,List.length_cons]; omega
theorem ev_words (l:List (List UInt8)) (h:lw l≤1099511627776):Ev (fun K=>print_words K l) (jf l):=by
  have hl:=lw_len l
  have loop:∀ (m i:Nat),l.length=i+m→Ev (fun K=>print_words_l0 K ((l.take i).filter ne) l (i:Int)) (jf l):=by
    intro m
    induction m with
    | zero =>
      intro i hi
      rw [List.take_of_length_le (by omega)]
      refine Ev.step (fun k=>by rw [print_words_l0]) ?_
      refine Ev.dF (by omega) (Ev.ret ⟨0,fun K _=>?_⟩)
      have h1:=jf_lw l
      have h2:=List.length_filter_le ne l
      unfold jf at h1 ⊢
      show (if _ then _ else _)=_
      rw [if_pos ⟨by omega,by omega⟩]
    | succ m ih =>
      intro i hi
      have hlt:i<l.length:=by omega
      have hf:=List.length_filter_le ne (l.take i)
      rw [List.length_take] at hf
      refine Ev.step (fun k=>by rw [print_words_l0]) ?_
      refine Ev.dT (by omega) (Ev.opt (getI_lt hlt) ?_)
      have:=ih (i+1) (by omega)
      rw [take_get' hlt,List.filter_append] at this
      rw [wrap_nat (by omega)]
      refine Ev.n (fun e=>?_) (fun e=>?_)
      · refine Ev.opt (appL_ok (by simp; omega)) ?_
        rw [filt_c e] at this
        exact this
      · rw [e] at this
        rw [show ([[]]:List (List UInt8)).filter ne=[] from rfl,List.append_nil] at this
        exact this
  refine Ev.congr (f:=fun K=>_) ?_ (fun k=>by rw [print_words])
  exact loop l.length 0 (by omega)
end Go.Proofs.YtjhfgiieicloeaaGreatDoor

/- The program's writers of modules, signatures, specifications, declarations, form by form. -/
namespace Go.Proofs.YtjhfgiieicloeaaGreatDoor
open Go Go.Am Go.Sx
abbrev CN:=List UInt8×Tr×List UInt8
def cnT (a:CN):Tr:=.node 8 0 a.1 [] [a.2.1]
def cnX (a:CN):List UInt8:=jf [a.1,[111,102],a.2.2]
abbrev barC:List UInt8:=[32,124,32]
def cnsX (L:List CN):List UInt8:=Lib.join (L.map cnX) barC
def CnOk (a:CN):Prop:=a.1.length≤1000∧a.2.2.length≤109951162777∧Ev (fun K=>print_typ K a.2.1) a.2.2
abbrev TX:=Tr×List UInt8
section
variable {n:Int} {nm mk:List UInt8} {x y:Tr} {vx vy:List UInt8}
theorem ev_pcons {L:List CN} (hL:∀ a∈L,CnOk a) (hn:L.length≤1048576) (hj:(cnsX L).length≤1099511627776):Ev (fun K=>print_cons K (L.map cnT)) (cnsX L):=by
  have loop:∀ (m i:Nat),L.length=i+m→Ev (fun K=>print_cons_l0 K ((L.map cnX).take i) (L.map cnT) (i:Int)) (cnsX L):=by
    intro m
    induction m with
    | zero =>
      intro i hi
      rw [List.take_of_length_le (by simp; omega)]
      refine Ev.step (fun k=>by rw [print_cons_l0]) ?_
      refine Ev.dF (by simp; omega) (Ev.ret ⟨0,fun K _=>?_⟩)
      show (if _ then _ else _)=_
      have:(Lib.join (L.map cnX) [32,124,32]).length≤1099511627776:=hj
      rw [if_pos ⟨by omega,by simp; omega⟩]
      rfl
    | succ m ih =>
      intro i hi
      have hlt:i<L.length:=by omega
      have hx:i<(L.map cnX).length:=by simp; omega
      have hr:i<(L.map cnT).length:=by simp; omega
      obtain ⟨o1,o2,o3⟩:=hL _ (List.getElem_mem hlt)
      have hg:getI (L.map cnT) (i:Int)=some (cnT L[i]):=by rw [getI_lt hr,List.getElem_map]
      refine Ev.step (fun k=>by rw [print_cons_l0]) ?_
      refine Ev.dT (by simp; omega) (Ev.opt hg ?_)
      refine Ev.opt (a:=L[i].2.1) rfl ?_
      refine Ev.bind o3 ?_
      refine Ev.bind (ev_words _ (by simp only [lw,List.length_cons,List.length_nil]; omega)) ?_
      refine Ev.opt (appL_ok (by simp; omega)) ?_
      rw [wrap_nat (by omega)]
      have:=ih (i+1) (by omega)
      rw [take_get' hx,List.getElem_map] at this
      exact this
  refine Ev.congr (f:=fun K=>_) ?_ (fun k=>by rw [print_cons])
  have:=loop L.length 0 (by omega)
  simpa using this
theorem ev_each1 {L:List TX} (hL:∀ a∈L,Ev (fun K=>print_spec K a.1) a.2) (hj:lw (L.map Prod.snd)≤1099511627776):Ev (fun K=>print_each K (L.map Prod.fst)) (jf (L.map Prod.snd)):=by
  have hn:=lw_len (L.map Prod.snd)
  rw [List.length_map] at hn
  have loop:∀ (m i:Nat),L.length=i+m→Ev (fun K=>print_each_l0 K ((L.map Prod.snd).take i) (L.map Prod.fst) (i:Int)) (jf (L.map Prod.snd)):=by
    intro m
    induction m with
    | zero =>
      intro i hi
      rw [List.take_of_length_le (by simp; omega)]
      refine Ev.step (fun k=>by rw [print_each_l0]) ?_
      exact Ev.dF (by simp; omega) (Ev.ret (ev_words _ hj))
    | succ m ih =>
      intro i hi
      have hlt:i<L.length:=by omega
      have hx:i<(L.map Prod.snd).length:=by simp; omega
      have hr:i<(L.map Prod.fst).length:=by simp; omega
      have hg:getI (L.map Prod.fst) (i:Int)=some L[i].1:=by rw [getI_lt hr,List.getElem_map]
      refine Ev.step (fun k=>by rw [print_each_l0]) ?_
      refine Ev.dT (by simp; omega) (Ev.opt hg ?_)
      refine Ev.bind (hL _ (List.getElem_mem hlt)) ?_
      refine Ev.opt (appL_ok (by simp; omega)) ?_
      rw [wrap_nat (by omega)]
      have:=ih (i+1) (by omega)
      rw [take_get' hx,List.getElem_map] at this
      exact this
  refine Ev.step (fun k=>by rw [print_each]) ?_
  have:=loop L.length 0 (by omega)
  simpa using this
theorem ev_each2 {L:List TX} (hL:∀ a∈L,Ev (fun K=>print_decl K a.1) a.2) (hj:lw (L.map Prod.snd)≤1099511627776):Ev (fun K=>print_each_2 K (L.map Prod.fst)) (jf (L.map Prod.snd)):=by
  have hn:=lw_len (L.map Prod.snd)
  rw [List.length_map] at hn
  have loop:∀ (m i:Nat),L.length=i+m→Ev (fun K=>print_each_2_l0 K ((L.map Prod.snd).take i) (L.map Prod.fst) (i:Int)) (jf (L.map Prod.snd)):=by
    intro m
    induction m with
    | zero =>
      intro i hi
      rw [List.take_of_length_le (by simp; omega)]
      refine Ev.step (fun k=>by rw [print_each_2_l0]) ?_
      exact Ev.dF (by simp; omega) (Ev.ret (ev_words _ hj))
    | succ m ih =>
      intro i hi
      have hlt:i<L.length:=by omega
      have hx:i<(L.map Prod.snd).length:=by simp; omega
      have hr:i<(L.map Prod.fst).length:=by simp; omega
      have hg:getI (L.map Prod.fst) (i:Int)=some L[i].1:=by rw [getI_lt hr,List.getElem_map]
      refine Ev.step (fun k=>by rw [print_each_2_l0]) ?_
      refine Ev.dT (by simp; omega) (Ev.opt hg ?_)
      refine Ev.bind (hL _ (List.getElem_mem hlt)) ?_
      refine Ev.opt (appL_ok (by simp; omega)) ?_
      rw [wrap_nat (by omega)]
      have:=ih (i+1) (by omega)
      rw [take_get' hx,List.getElem_map] at this
      exact this
  refine Ev.step (fun k=>by rw [print_each_2]) ?_
  have:=loop L.length 0 (by omega)
  simpa using this
/- forms -/
theorem ps_val (lnm:nm.length≤1000) (hx:Ev (fun K=>print_typ K x) vx) (lx:vx.length≤109951162777):Ev (fun K=>print_spec K (.node 60 n nm mk [x])) (jf [[118,97,108],nm,[58],vx]):=by
  refine Ev.step (fun k=>by rw [print_spec]) ?_
  repeat' first | refine Ev.dT rfl ?_ | refine Ev.dF (by first | decide | simp) ?_
  refine Ev.opt (a:=x) rfl ?_
  refine Ev.bind hx ?_
  exact Ev.ret (ev_words _ (by simp only [lw,List.length_cons,List.length_nil]; omega))
theorem ps_ty1 (lnm:nm.length≤1000) (hx:Ev (fun K=>print_typ K x) vx) (lx:vx.length≤109951162777):Ev (fun K=>print_spec K (.node 61 n nm mk [x])) (jf [[116,121,112,101],nm,[61],vx]):=by
  refine Ev.step (fun k=>by rw [print_spec]) ?_
  repeat' first | refine Ev.dT rfl ?_ | refine Ev.dF (by first | decide | simp) ?_
  refine Ev.opt (a:=x) rfl ?_
  refine Ev.bind hx ?_
  exact Ev.ret (ev_words _ (by simp only [lw,List.length_cons,List.length_nil]; omega))
theorem ps_ty0 (lnm:nm.length≤1000):Ev (fun K=>print_spec K (.node 61 n nm mk [])) (jf [[116,121,112,101],nm]):=by
  refine Ev.step (fun k=>by rw [print_spec]) ?_
  repeat' first | refine Ev.dT rfl ?_ | refine Ev.dF (by first | decide | simp) ?_
  exact Ev.ret (ev_words _ (by simp only [lw,List.length_cons,List.length_nil]; omega))
theorem ps_str (lnm:nm.length≤1000) (hx:Ev (fun K=>print_sig K x) vx) (lx:vx.length≤109951162777):Ev (fun K=>print_spec K (.node 63 n nm mk [x])) (jf [[115,116,114,117,99,116,117,114,101],nm,[58],vx]):=by
  refine Ev.step (fun k=>by rw [print_spec]) ?_
  repeat' first | refine Ev.dT rfl ?_ | refine Ev.dF (by first | decide | simp) ?_
  refine Ev.opt (a:=x) rfl ?_
  refine Ev.bind hx ?_
  exact Ev.ret (ev_words _ (by simp only [lw,List.length_cons,List.length_nil]; omega))
theorem ps_inc (hx:Ev (fun K=>print_sig K x) vx) (lx:vx.length≤109951162777):Ev (fun K=>print_spec K (.node 64 n nm mk [x])) (jf [[105,110,99,108,117,100,101],vx]):=by
  refine Ev.step (fun k=>by rw [print_spec]) ?_
  repeat' first | refine Ev.dT rfl ?_ | refine Ev.dF (by first | decide | simp) ?_
  refine Ev.opt (a:=x) rfl ?_
  refine Ev.bind hx ?_
  exact Ev.ret (ev_words _ (by simp only [lw,List.length_cons,List.length_nil]; omega))
theorem ps_shr (lmk:mk.length≤1000) (lnm:nm.length≤1000):Ev (fun K=>print_spec K (.node 65 n nm mk [])) (jf [[115,104,97,114,105,110,103,32,116,121,112,101],nm,[61],mk]):=by
  refine Ev.step (fun k=>by rw [print_spec]) ?_
  repeat' first | refine Ev.dT rfl ?_ | refine Ev.dF (by first | decide | simp) ?_
  exact Ev.ret (ev_words _ (by simp only [lw,List.length_cons,List.length_nil]; omega))
theorem pd_va2 (lnm:nm.length≤1000) (hx:Ev (fun K=>print_typ K x) vx) (lx:vx.length≤109951162777) (hy:Ev (fun K=>print_expr K y) vy) (ly:vy.length≤109951162777):Ev (fun K=>print_decl K (.node 70 n nm mk [x,y])) (jf [[118,97,108],nm,[58],vx,[61],vy]):=by
  refine Ev.step (fun k=>by rw [print_decl]) ?_
  repeat' first | refine Ev.dT rfl ?_ | refine Ev.dF (by first | decide | simp) ?_
  refine Ev.opt (a:=x) rfl ?_
  refine Ev.opt (a:=y) rfl ?_
  refine Ev.bind hx ?_
  refine Ev.bind hy ?_
  exact Ev.ret (ev_words _ (by simp only [lw,List.length_cons,List.length_nil]; omega))
theorem pd_va1 (lnm:nm.length≤1000) (hx:Ev (fun K=>print_expr K x) vx) (lx:vx.length≤109951162777):Ev (fun K=>print_decl K (.node 70 n nm mk [x])) (jf [[118,97,108],nm,[61],vx]):=by
  refine Ev.step (fun k=>by rw [print_decl]) ?_
  repeat' first | refine Ev.dT rfl ?_ | refine Ev.dF (by first | decide | simp) ?_
  refine Ev.opt (a:=x) rfl ?_
  refine Ev.bind hx ?_
  exact Ev.ret (ev_words _ (by simp only [lw,List.length_cons,List.length_nil]; omega))
theorem pd_ty (lnm:nm.length≤1000) (hx:Ev (fun K=>print_typ K x) vx) (lx:vx.length≤109951162777):Ev (fun K=>print_decl K (.node 71 n nm mk [x])) (jf [[116,121,112,101],nm,[61],vx]):=by
  refine Ev.step (fun k=>by rw [print_decl]) ?_
  repeat' first | refine Ev.dT rfl ?_ | refine Ev.dF (by first | decide | simp) ?_
  refine Ev.opt (a:=x) rfl ?_
  refine Ev.bind hx ?_
  exact Ev.ret (ev_words _ (by simp only [lw,List.length_cons,List.length_nil]; omega))
theorem pd_str (lnm:nm.length≤1000) (hx:Ev (fun K=>print_mod K x) vx) (lx:vx.length≤109951162777):Ev (fun K=>print_decl K (.node 73 n nm mk [x])) (jf [[115,116,114,117,99,116,117,114,101],nm,[61],vx]):=by
  refine Ev.step (fun k=>by rw [print_decl]) ?_
  repeat' first | refine Ev.dT rfl ?_ | refine Ev.dF (by first | decide | simp) ?_
  refine Ev.opt (a:=x) rfl ?_
  refine Ev.bind hx ?_
  exact Ev.ret (ev_words _ (by simp only [lw,List.length_cons,List.length_nil]; omega))
theorem pd_sig (lnm:nm.length≤1000) (hx:Ev (fun K=>print_sig K x) vx) (lx:vx.length≤109951162777):Ev (fun K=>print_decl K (.node 74 n nm mk [x])) (jf [[115,105,103,110,97,116,117,114,101],nm,[61],vx]):=by
  refine Ev.step (fun k=>by rw [print_decl]) ?_
  repeat' first | refine Ev.dT rfl ?_ | refine Ev.dF (by first | decide | simp) ?_
  refine Ev.opt (a:=x) rfl ?_
  refine Ev.bind hx ?_
  exact Ev.ret (ev_words _ (by simp only [lw,List.length_cons,List.length_nil]; omega))
theorem pd_fun (lmk:mk.length≤1000) (lnm:nm.length≤1000) (hx:Ev (fun K=>print_sig K x) vx) (lx:vx.length≤109951162777) (hy:Ev (fun K=>print_mod K y) vy) (ly:vy.length≤109951162777):Ev (fun K=>print_decl K (.node 75 n nm mk [x,y])) (jf [[102,117,110,99,116,111,114],nm,[40],mk,[58],vx,[41],[61],vy]):=by
  refine Ev.step (fun k=>by rw [print_decl]) ?_
  repeat' first | refine Ev.dT rfl ?_ | refine Ev.dF (by first | decide | simp) ?_
  refine Ev.opt (a:=x) rfl ?_
  refine Ev.opt (a:=y) rfl ?_
  refine Ev.bind hx ?_
  refine Ev.bind hy ?_
  exact Ev.ret (ev_words _ (by simp only [lw,List.length_cons,List.length_nil]; omega))
theorem pd_opn (lnm:nm.length≤1000):Ev (fun K=>print_decl K (.node 76 n nm mk [])) (jf [[111,112,101,110],nm]):=by
  refine Ev.step (fun k=>by rw [print_decl]) ?_
  repeat' first | refine Ev.dT rfl ?_ | refine Ev.dF (by first | decide | simp) ?_
  exact Ev.ret (ev_words _ (by simp only [lw,List.length_cons,List.length_nil]; omega))
theorem pd_inc (lnm:nm.length≤1000):Ev (fun K=>print_decl K (.node 77 n nm mk [])) (jf [[105,110,99,108,117,100,101],nm]):=by
  refine Ev.step (fun k=>by rw [print_decl]) ?_
  repeat' first | refine Ev.dT rfl ?_ | refine Ev.dF (by first | decide | simp) ?_
  exact Ev.ret (ev_words _ (by simp only [lw,List.length_cons,List.length_nil]; omega))
theorem pg_whr (lnm:nm.length≤1000) (hx:Ev (fun K=>print_sig K x) vx) (lx:vx.length≤109951162777) (hy:Ev (fun K=>print_typ K y) vy) (ly:vy.length≤109951162777):Ev (fun K=>print_sig K (.node 52 n nm mk [x,y])) (jf [vx,[119,104,101,114,101,32,116,121,112,101],nm,[61],vy]):=by
  refine Ev.step (fun k=>by rw [print_sig]) ?_
  repeat' first | refine Ev.dT rfl ?_ | refine Ev.dF (by first | decide | simp) ?_
  refine Ev.opt (a:=x) rfl ?_
  refine Ev.opt (a:=y) rfl ?_
  refine Ev.bind hx ?_
  refine Ev.bind hy ?_
  exact Ev.ret (ev_words _ (by simp only [lw,List.length_cons,List.length_nil]; omega))
theorem pm_app (lnm:nm.length≤1000) (hx:Ev (fun K=>print_mod K x) vx) (lx:vx.length≤109951162777):Ev (fun K=>print_mod K (.node 42 n nm mk [x])) (jf [nm,[40],vx,[41]]):=by
  refine Ev.step (fun k=>by rw [print_mod]) ?_
  repeat' first | refine Ev.dT rfl ?_ | refine Ev.dF (by first | decide | simp) ?_
  refine Ev.opt (a:=x) rfl ?_
  refine Ev.bind hx ?_
  exact Ev.ret (ev_words _ (by simp only [lw,List.length_cons,List.length_nil]; omega))
theorem ps_dat {L:List CN} (lnm:nm.length≤1000) (hL:∀ a∈L,CnOk a) (hn:L.length≤1048576) (hj:(cnsX L).length≤109951162777):Ev (fun K=>print_spec K (.node 62 n nm mk (L.map cnT))) (jf [[100,97,116,97,116,121,112,101],nm,[61],cnsX L]):=by
  refine Ev.step (fun k=>by rw [print_spec]) ?_
  repeat' first | refine Ev.dT rfl ?_ | refine Ev.dF (by decide) ?_
  refine Ev.bind (ev_pcons hL hn (by omega)) ?_
  exact Ev.ret (ev_words _ (by simp only [lw,List.length_cons,List.length_nil]; omega))
theorem pd_dat {L:List CN} (lnm:nm.length≤1000) (hL:∀ a∈L,CnOk a) (hn:L.length≤1048576) (hj:(cnsX L).length≤109951162777):Ev (fun K=>print_decl K (.node 72 n nm mk (L.map cnT))) (jf [[100,97,116,97,116,121,112,101],nm,[61],cnsX L]):=by
  refine Ev.step (fun k=>by rw [print_decl]) ?_
  repeat' first | refine Ev.dT rfl ?_ | refine Ev.dF (by decide) ?_
  refine Ev.bind (ev_pcons hL hn (by omega)) ?_
  exact Ev.ret (ev_words _ (by simp only [lw,List.length_cons,List.length_nil]; omega))
theorem pm_path:Ev (fun K=>print_mod K (.node 41 n nm mk [])) nm:=by
  refine Ev.step (fun k=>by rw [print_mod]) ?_
  exact Ev.dT rfl Ev.pure
theorem pg_nam:Ev (fun K=>print_sig K (.node 51 n nm mk [])) nm:=by
  refine Ev.step (fun k=>by rw [print_sig]) ?_
  exact Ev.dT rfl Ev.pure
def sgn (n:Int):List UInt8:=if n=1 then [58,62] else [58]
theorem pm_sl (hx:Ev (fun K=>print_mod K x) vx) (lx:vx.length≤109951162777) (hy:Ev (fun K=>print_sig K y) vy) (ly:vy.length≤109951162777):Ev (fun K=>print_mod K (.node 43 n nm mk [x,y])) (jf [vx,sgn n,vy]):=by
  refine Ev.step (fun k=>by rw [print_mod]) ?_
  have core:∀ s:List UInt8,s.length≤2→Ev (fun K=>print_mod_c0 K (.node 43 n nm mk [x,y]) s) (jf [vx,s,vy]):=fun s hs=>by
    refine Ev.step (fun k=>by rw [print_mod_c0]) ?_
    refine Ev.opt (a:=x) rfl ?_
    refine Ev.opt (a:=y) rfl ?_
    refine Ev.bind hx (Ev.bind hy ?_)
    exact Ev.ret (ev_words _ (by simp only [lw]; omega))
  refine Ev.dF (by decide) (Ev.dF (by decide) (Ev.dT rfl ?_))
  unfold sgn
  refine Ev.d (fun h=>?_) (fun h=>?_)
  · rw [if_pos h]; exact core _ (by decide)
  · rw [if_neg h]; exact core _ (by decide)
theorem pm_strc {L:List TX} (hL:∀ a∈L,Ev (fun K=>print_decl K a.1) a.2) (hj:lw (L.map Prod.snd)≤109951162777):Ev (fun K=>print_mod K (.node 40 n nm mk (L.map Prod.fst))) (jf [[115,116,114,117,99,116],jf (L.map Prod.snd),[101,110,100]]):=by
  have:=jf_lw (L.map Prod.snd)
  refine Ev.step (fun k=>by rw [print_mod]) ?_
  refine Ev.dF (by decide) (Ev.dF (by decide) (Ev.dF (by decide) (Ev.bind (ev_each2 hL (by omega)) ?_)))
  exact Ev.ret (ev_words _ (by simp only [lw,List.length_cons,List.length_nil]; omega))
theorem pg_bod {L:List TX} (hL:∀ a∈L,Ev (fun K=>print_spec K a.1) a.2) (hj:lw (L.map Prod.snd)≤109951162777):Ev (fun K=>print_sig K (.node 50 n nm mk (L.map Prod.fst))) (jf [[115,105,103],jf (L.map Prod.snd),[101,110,100]]):=by
  have:=jf_lw (L.map Prod.snd)
  refine Ev.step (fun k=>by rw [print_sig]) ?_
  refine Ev.dF (by decide) (Ev.dF (by decide) (Ev.bind (ev_each1 hL (by omega)) ?_))
  exact Ev.ret (ev_words _ (by simp only [lw,List.length_cons,List.length_nil]; omega))
end
end Go.Proofs.YtjhfgiieicloeaaGreatDoor

/- The program's writer of programs. -/
namespace Go.Proofs.YtjhfgiieicloeaaGreatDoor
open Go Go.Am Go.Sx
def prX (L:List TX):List UInt8:=(L.map fun a=>a.2++[10]).flatten
theorem prX_cons (a:TX) (L:List TX):prX (a :: L)=a.2++10 :: prX L:=by unfold prX; simp
theorem prX_take (L:List TX) {i:Nat} (h:i<L.length):prX (L.take (i+1))=prX (L.take i)++(L[i].2++[10]):=by
  unfold prX
  rw [take_get' h,List.map_append,List.flatten_append]
  simp
theorem prX_le (L:List TX) (i:Nat):(prX (L.take i)).length≤(prX L).length:=by
  have:prX L=prX (L.take i)++prX (L.drop i):=by
    unfold prX
    rw [← List.flatten_append,← List.map_append,List.take_append_drop]
  rw [this,List.length_append]
  omega
theorem prX_lw:∀ L:List TX,(prX L).length=lw (L.map Prod.snd)
  | []=>rfl
  | a :: L=>by rw [prX_cons,List.map_cons,lw,← prX_lw L,List.length_append,List.length_cons]; omega
theorem ev_pprog {L:List TX} (hL:∀ a∈L,Ev (fun K=>print_decl K a.1) a.2) (hn:L.length≤1048576) (hb:(prX L).length≤1099511627776):Ev (fun K=>print_Prog_l0 K (L.map Prod.fst) [] 0) (prX L):=by
  have loop:∀ (m i:Nat),L.length=i+m→Ev (fun K=>print_Prog_l0 K (L.map Prod.fst) (prX (L.take i)) (i:Int)) (prX L):=by
    intro m
    induction m with
    | zero =>
      intro i hi
      rw [List.take_of_length_le (by omega)]
      refine Ev.step (fun k=>by rw [print_Prog_l0]) ?_
      exact Ev.dF (by simp; omega) Ev.pure
    | succ m ih =>
      intro i hi
      have hlt:i<L.length:=by omega
      have hr:i<(L.map Prod.fst).length:=by simp; omega
      have hg:getI (L.map Prod.fst) (i:Int)=some L[i].1:=by rw [getI_lt hr,List.getElem_map]
      have h1:=prX_le L (i+1)
      have e:=prX_take L hlt
      have hl:=congrArg List.length e
      rw [List.length_append,List.length_append] at hl
      simp only [List.length_cons,List.length_nil] at hl
      refine Ev.step (fun k=>by rw [print_Prog_l0]) ?_
      refine Ev.dT (by simp; omega) (Ev.opt hg (Ev.bind (hL _ (List.getElem_mem hlt)) ?_))
      refine Ev.iteT (by omega) ?_
      rw [wrap_nat (by omega),← e]
      exact ih (i+1) (by omega)
  exact loop L.length 0 (by omega)
end Go.Proofs.YtjhfgiieicloeaaGreatDoor

/- The document's writer of modules, signatures, specifications, declarations: rows of words, a sign for each part. -/
namespace Go.Proofs.YtjhfgiieicloeaaGreatDoor
open Go Go.Am Go.Sx
theorem addW_len (s w:List UInt8):(addW s w).length≤s.length+w.length+1:=by
  unfold addW
  (repeat' split) <;> (try simp only [List.length_append,List.length_cons,List.length_nil]) <;> omega
theorem fold_jf:∀ (m l:List (List UInt8)),m.foldl addW (jf l)=jf (l++m)
  | [],l=>by simp
  | w :: m,l=>by
    rw [List.foldl_cons,← jf_snoc,fold_jf m]
    simp
theorem jtail_take (sep:List UInt8):∀ (l:List (List UInt8)) (i:Nat),(Lib.joinTail sep (l.take i)).length≤(Lib.joinTail sep l).length:=Lib.joinTail_take_le sep
theorem jw_take (sep:List UInt8) (l:List (List UInt8)) (i:Nat):(Lib.join (l.take i) sep).length≤(Lib.join l sep).length:=by
  cases l with
  | nil=>simp
  | cons x r =>
    cases i with
    | zero=>rw [List.take_zero,Lib.join_nil]; simp
    | succ i =>
      rw [List.take_succ_cons,Lib.join_cons,Lib.join_cons]
      have:=jtail_take sep r i
      simp only [List.length_append]
      omega
section
variable {t:Tr} {r:List UInt8}
theorem row_scan {s v:List UInt8} {f:Nat} (hr:r.length≤100):∀ (m i:Nat),i+m≤r.length→(∀ q,i≤q→(h:q<i+m)→(hq:q<r.length)→r[q]≠32)→Ev (fun K=>ref09_Text_l0 K t r s (f:Int) ((i+m:Nat):Int)) v→Ev (fun K=>ref09_Text_l0 K t r s (f:Int) (i:Int)) v
  | 0,i,_,_,h=>h
  | m+1,i,hi,hn,h=>by
    have hlt:i<r.length:=by omega
    refine Ev.step (fun k=>by rw [ref09_Text_l0]) ?_
    refine Ev.dT (by omega) (Ev.dT (by omega) (Ev.opt (getI_lt hlt) ?_))
    have hc:=hn i (Nat.le_refl _) (by omega) hlt
    refine Ev.nT (fun e=>hc (u8_eq.1 (show ((r[i].toNat:Nat):Int)=(((32:UInt8).toNat:Nat):Int) from e))) ?_
    rw [wrap_nat (by omega)]
    exact row_scan hr m (i+1) (by omega) (fun q h1 h2=>hn q (by omega) (by omega)) (by rw [show i+1+m=i+(m+1) by omega]; exact h)
theorem row_end {s v w p:List UInt8} {f i:Nat} (hr:r.length≤100) (hi:i≤r.length) (hc:(h:i<r.length)→r[i]=32) (hw:subL r (f:Int) (i:Int)=some w) (hp:Ev (fun K=>ref09_part K t w) p) (hs:s.length+p.length≤1099511627776)
    (h:Ev (fun K=>ref09_Text_l0 K t r (addW s p) ((i+1:Nat):Int) ((i+1:Nat):Int)) v):Ev (fun K=>ref09_Text_l0 K t r s (f:Int) (i:Int)) v:=by
  refine Ev.step (fun k=>by rw [ref09_Text_l0]) ?_
  have key:Ev (fun K=>(subL r (f:Int) (i:Int)).bind fun v11=>((ref09_part K t v11).bind fun v12=>(iteS (!decide (v12=([]:List UInt8))) (iteS (!decide (s=([]:List UInt8))) ((Am.catS s ([32]:List UInt8)).bind fun v13=>((Am.catS v13 v12).bind fun v14=>(ref09_Text_l0 K t r v14 (IntKind.i64.wrap ((i:Int)+1)) (IntKind.i64.wrap ((i:Int)+1))))) ((Am.catS s v12).bind fun v15=>(ref09_Text_l0 K t r v15 (IntKind.i64.wrap ((i:Int)+1)) (IntKind.i64.wrap ((i:Int)+1))))) ((Am.catS s v12).bind fun v16=>(ref09_Text_l0 K t r v16 (IntKind.i64.wrap ((i:Int)+1)) (IntKind.i64.wrap ((i:Int)+1))))))) v:=by
    refine Ev.opt hw (Ev.bind hp ?_)
    rw [wrap_nat (by omega)]
    unfold addW at h
    refine Ev.n (fun e=>?_) (fun e=>?_)
    · rw [if_neg e] at h
      refine Ev.n (fun e2=>?_) (fun e2=>?_)
      · rw [if_neg e2] at h
        exact Ev.opt (catS_ok (by simp; omega)) (Ev.opt (catS_ok (by simp; omega)) h)
      · rw [if_pos e2] at h
        refine Ev.opt (catS_ok (by omega)) ?_
        rw [e2,List.nil_append]; exact h
    · rw [if_pos e] at h
      refine Ev.opt (catS_ok (by omega)) ?_
      rw [e,List.append_nil]; exact h
  refine Ev.dT (by omega) ?_
  refine Ev.d (fun hlt=>?_) (fun _=>key)
  refine Ev.opt (getI_lt (by omega)) ?_
  refine Ev.nF ?_ key
  rw [hc (by omega)]
  rfl
theorem row_run (hr:r.length≤100):∀ (L:List (List UInt8×List UInt8)),L≠[]→(∀ a∈L,(32:UInt8)∉a.1∧Ev (fun K=>ref09_part K t a.1) a.2)→∀ (s:List UInt8) (f:Nat),r.drop f=Lib.join (L.map Prod.fst) [32]→f≤r.length→s.length+lw (L.map Prod.snd)≤1099511627776 →
    Ev (fun K=>ref09_Text_l0 K t r s (f:Int) (f:Int)) ((L.map Prod.snd).foldl addW s)
  | [],h,_,_,_,_,_,_=>absurd rfl h
  | [a],_,hL,s,f,hd,hf,hs=>by
    obtain ⟨h32,hp⟩:=hL a List.mem_cons_self
    rw [List.map_cons,List.map_nil,Lib.join_one] at hd
    have hlen:=congrArg List.length hd
    rw [List.length_drop] at hlen
    simp only [List.map_cons,List.map_nil,lw] at hs
    refine row_scan hr a.1.length f (by omega) (fun q h1 h2 h3 e=>h32 ?_) ?_
    · have:r[q]∈r.drop f:=by
        have e1:r[q]=(r.drop f)[q - f]'(by rw [List.length_drop]; omega):=by
          rw [List.getElem_drop]; congr 1; omega
        rw [e1]; exact List.getElem_mem _
      rw [hd,e] at this; exact this
    · refine row_end hr (w:=a.1) (p:=a.2) (by omega) (fun h=>absurd h (by omega)) ?_ hp (by omega) ?_
      · rw [subL_ok (by omega) (by omega),List.take_of_length_le (by omega),hd]
      · refine Ev.step (fun k=>by rw [ref09_Text_l0]) ?_
        exact Ev.dF (by omega) Ev.pure
  | a :: b :: L,_,hL,s,f,hd,hf,hs=>by
    obtain ⟨h32,hp⟩:=hL a List.mem_cons_self
    have e0:Lib.join ((a :: b :: L).map Prod.fst) [32]=a.1++32 :: Lib.join ((b :: L).map Prod.fst) [32]:=by
      rw [List.map_cons,List.map_cons,Lib.join_cons,jtail_cons,Lib.join_cons]; simp
    rw [e0] at hd
    have hlen:=congrArg List.length hd
    rw [List.length_drop,List.length_append,List.length_cons] at hlen
    have hs':s.length+(a.2.length+1+lw ((b :: L).map Prod.snd))≤1099511627776:=hs
    have al:=addW_len s a.2
    refine row_scan hr a.1.length f (by omega) (fun q h1 h2 h3 e=>h32 ?_) ?_
    · have e1:r[q]=(r.drop f)[q - f]'(by rw [List.length_drop]; omega):=by
        rw [List.getElem_drop]; congr 1; omega
      have e2:(r.drop f)[q - f]'(by rw [List.length_drop]; omega)=a.1[q - f]'(by omega):=by
        simp only [hd]
        rw [List.getElem_append_left]
      rw [← e,e1,e2]; exact List.getElem_mem _
    · refine row_end hr (w:=a.1) (p:=a.2) (by omega) (fun h=>?_) ?_ hp (by omega) ?_
      · have e1:r[f+a.1.length]=(r.drop f)[a.1.length]'(by rw [List.length_drop]; omega):=by
          rw [List.getElem_drop]
        rw [e1]
        simp only [hd]
        rw [List.getElem_append_right (Nat.le_refl _)]
        simp
      · rw [subL_ok (by omega) (by omega),List.drop_take,hd]
        rw [show f+a.1.length - f=a.1.length by omega,List.take_left]
      · refine row_run hr (b :: L) (by simp) (fun x hx=>hL x (List.mem_cons_of_mem _ hx)) (addW s a.2) (f+a.1.length+1) ?_ (by omega) (by omega)
        rw [show f+a.1.length+1=f+(a.1.length+1) by omega,← List.drop_drop,hd]
        rw [← List.drop_drop,List.drop_left]
        rfl
end
section
variable {k n:Int} {nm mk:List UInt8} {ks:List Tr} {v w:List UInt8}
theorem part_N:Ev (fun K=>ref09_part K (.node k n nm mk ks) [78]) nm:=by
  refine Ev.step (fun k=>by rw [ref09_part]) ?_
  exact Ev.dT rfl Ev.pure
theorem part_M:Ev (fun K=>ref09_part K (.node k n nm mk ks) [77]) mk:=by
  refine Ev.step (fun k=>by rw [ref09_part]) ?_
  exact Ev.dF (by decide) (Ev.dT rfl Ev.pure)
theorem part_0 {x:Tr} {l:List Tr} (h:Ev (fun K=>ref09_Text K x) v):Ev (fun K=>ref09_part K (.node k n nm mk (x :: l)) [48]) v:=by
  refine Ev.step (fun k=>by rw [ref09_part]) ?_
  refine Ev.dF (by decide) (Ev.dF (by decide) (Ev.dT rfl ?_))
  exact Ev.opt (a:=48) rfl (Ev.opt (a:=x) rfl (Ev.ret h))
theorem part_1 {x y:Tr} {l:List Tr} (h:Ev (fun K=>ref09_Text K y) v):Ev (fun K=>ref09_part K (.node k n nm mk (x :: y :: l)) [49]) v:=by
  refine Ev.step (fun k=>by rw [ref09_part]) ?_
  refine Ev.dF (by decide) (Ev.dF (by decide) (Ev.dF (by decide) (Ev.dT rfl ?_)))
  exact Ev.opt (a:=49) rfl (Ev.opt (a:=y) rfl (Ev.ret h))
theorem part_w (h:w∉[[78],[77],[48],[49],[42],[124]]):Ev (fun K=>ref09_part K (.node k n nm mk ks) w) w:=by
  simp only [List.mem_cons,not_or,List.not_mem_nil] at h
  obtain ⟨h1,h2,h3,h4,h5,h6,_⟩:=h
  refine Ev.step (fun k=>by rw [ref09_part]) ?_
  exact Ev.dF h1 (Ev.dF h2 (Ev.dF h3 (Ev.dF h4 (Ev.nT h5 (Ev.nT h6 Ev.pure)))))
theorem part_s {L:List TX} (hL:∀ a∈L,Ev (fun K=>ref09_Text K a.1) a.2) (hn:L.length≤1048576) (hj:(Lib.join (L.map Prod.snd) [32]).length≤1099511627776):Ev (fun K=>ref09_part K (.node k n nm mk (L.map Prod.fst)) [42]) (Lib.join (L.map Prod.snd) [32]):=by
  refine Ev.step (fun k=>by rw [ref09_part]) ?_
  refine Ev.dF (by decide) (Ev.dF (by decide) (Ev.dF (by decide) (Ev.dF (by decide) (Ev.nF rfl ?_))))
  have loop:∀ (m i:Nat),L.length=i+m→Ev (fun K=>ref09_part_l0 K (.node k n nm mk (L.map Prod.fst)) [42] (Lib.join ((L.map Prod.snd).take i) [32]) (i:Int)) (Lib.join (L.map Prod.snd) [32]):=by
    intro m
    induction m with
    | zero =>
      intro i hi
      rw [List.take_of_length_le (by simp; omega)]
      refine Ev.step (fun k=>by rw [ref09_part_l0]) ?_
      exact Ev.dF (by simp; omega) Ev.pure
    | succ m ih =>
      intro i hi
      have hlt:i<L.length:=by omega
      have hx:i<(L.map Prod.snd).length:=by simp; omega
      have hr:i<(L.map Prod.fst).length:=by simp; omega
      have hg:getI (L.map Prod.fst) (i:Int)=some L[i].1:=by rw [getI_lt hr,List.getElem_map]
      have j1:=jw_take [32] (L.map Prod.snd) (i+1)
      have sn:=jw_snoc ((L.map Prod.snd).take i) (L.map Prod.snd)[i] [32]
      rw [← take_get' hx,List.getElem_map] at sn
      have:=ih (i+1) (by omega)
      have c1:∀ s:List UInt8,s++L[i].2=Lib.join ((L.map Prod.snd).take (i+1)) [32]→Ev (fun K=>ref09_part_c1 K (.node k n nm mk (L.map Prod.fst)) [42] s (i:Int)) (Lib.join (L.map Prod.snd) [32]):=fun s he=>by
        have hl:=congrArg List.length he
        rw [List.length_append] at hl
        refine Ev.step (fun k=>by rw [ref09_part_c1]) ?_
        refine Ev.dF (by decide) (Ev.opt hg (Ev.bind (hL _ (List.getElem_mem hlt)) ?_))
        refine Ev.opt (catS_ok (by omega)) ?_
        rw [wrap_nat (by omega),he]
        exact this
      refine Ev.step (fun k=>by rw [ref09_part_l0]) ?_
      have go:Ev (fun K=>ref09_part_c0 K (.node k n nm mk (L.map Prod.fst)) [42] (Lib.join ((L.map Prod.snd).take i) [32]) (i:Int)) (Lib.join (L.map Prod.snd) [32]):=by
        refine Ev.step (fun k=>by rw [ref09_part_c0]) ?_
        have j0:=jw_take [32] (L.map Prod.snd) i
        refine Ev.d (fun h=>?_) (fun h=>?_)
        · refine Ev.opt (catS_ok (by simp; omega)) (c1 _ ?_)
          have hne:(L.map Prod.snd).take i≠[]:=fun e=>by
            have:((L.map Prod.snd).take i).length=0:=by rw [e]; rfl
            rw [List.length_take] at this
            omega
          rw [sn,if_neg hne]
        · have e:i=0:=by omega
          subst e
          refine c1 _ ?_
          rw [sn]; simp [Lib.join_nil]
      refine Ev.dT (by simp; omega) ?_
      exact Ev.d (fun _=>Ev.dF (by decide) go) (fun _=>go)
  have:=loop L.length 0 (by omega)
  simpa [Lib.join_nil] using this
def cnR9 (a:CN):List UInt8:=a.1++[32,111,102,32]++a.2.2
theorem cnR_X {a:CN} (h1:a.1≠[]) (h2:a.2.2≠[]):cnX a=cnR9 a:=by
  unfold cnX cnR9
  rw [jf_c h1,filt_c (by simp),filt_c h2,jtail_cons,jtail_cons]
  simp [Lib.joinTail]
theorem part_b {L:List CN} (hL:∀ a∈L,Ev (fun K=>ref06_Text K a.2.1) a.2.2) (hn:L.length≤1048576) (hj:(Lib.join (L.map cnR9) barC).length≤1099511627776):Ev (fun K=>ref09_part K (.node k n nm mk (L.map cnT)) [124]) (Lib.join (L.map cnR9) barC):=by
  refine Ev.step (fun k=>by rw [ref09_part]) ?_
  refine Ev.dF (by decide) (Ev.dF (by decide) (Ev.dF (by decide) (Ev.dF (by decide) (Ev.nT (by decide) (Ev.nF rfl ?_)))))
  have loop:∀ (m i:Nat),L.length=i+m→Ev (fun K=>ref09_part_l0 K (.node k n nm mk (L.map cnT)) [124] (Lib.join ((L.map cnR9).take i) barC) (i:Int)) (Lib.join (L.map cnR9) barC):=by
    intro m
    induction m with
    | zero =>
      intro i hi
      rw [List.take_of_length_le (by simp; omega)]
      refine Ev.step (fun k=>by rw [ref09_part_l0]) ?_
      exact Ev.dF (by simp; omega) Ev.pure
    | succ m ih =>
      intro i hi
      have hlt:i<L.length:=by omega
      have hx:i<(L.map cnR9).length:=by simp; omega
      have hr:i<(L.map cnT).length:=by simp; omega
      have hg:getI (L.map cnT) (i:Int)=some (cnT L[i]):=by rw [getI_lt hr,List.getElem_map]
      have j1:=jw_take barC (L.map cnR9) (i+1)
      have sn:=jw_snoc ((L.map cnR9).take i) (L.map cnR9)[i] barC
      rw [← take_get' hx,List.getElem_map] at sn
      have:=ih (i+1) (by omega)
      have c1:∀ s:List UInt8,s++cnR9 L[i]=Lib.join ((L.map cnR9).take (i+1)) barC→Ev (fun K=>ref09_part_c1 K (.node k n nm mk (L.map cnT)) [124] s (i:Int)) (Lib.join (L.map cnR9) barC):=fun s he=>by
        have hl:=congrArg List.length he
        have ec:cnR9 L[i]=L[i].1++[32,111,102,32]++L[i].2.2:=rfl
        rw [ec] at hl
        simp only [List.length_append,List.length_cons,List.length_nil] at hl
        refine Ev.step (fun k=>by rw [ref09_part_c1]) ?_
        refine Ev.dT rfl (Ev.opt hg ?_)
        refine Ev.opt (catS_ok (by omega)) ?_
        refine Ev.opt (catS_ok (by simp; omega)) ?_
        refine Ev.opt hg ?_
        refine Ev.opt (a:=L[i].2.1) rfl ?_
        refine Ev.bind (hL _ (List.getElem_mem hlt)) ?_
        refine Ev.opt (catS_ok (by simp; omega)) ?_
        rw [wrap_nat (by omega)]
        rw [← he,ec,← List.append_assoc,← List.append_assoc] at this
        exact this
      refine Ev.step (fun k=>by rw [ref09_part_l0]) ?_
      have j0:=jw_take barC (L.map cnR9) i
      refine Ev.dT (by simp; omega) ?_
      refine Ev.d (fun h=>?_) (fun h=>?_)
      · refine Ev.dT rfl (Ev.opt (catS_ok (by simp; omega)) ?_)
        refine Ev.step (fun k=>by rw [ref09_part_c0]) ?_
        refine Ev.dT h (Ev.opt (catS_ok (by simp; omega)) (c1 _ ?_))
        have hne:(L.map cnR9).take i≠[]:=fun e=>by
          have:((L.map cnR9).take i).length=0:=by rw [e]; rfl
          rw [List.length_take] at this
          omega
        rw [sn,if_neg hne]
        simp
      · have e:i=0:=by omega
        subst e
        refine Ev.step (fun k=>by rw [ref09_part_c0]) ?_
        refine Ev.dF h (c1 _ ?_)
        rw [sn]; simp [Lib.join_nil]
  have:=loop L.length 0 (by omega)
  simpa [Lib.join_nil] using this
theorem rt_row {r:List UInt8} (L:List (List UInt8×List UInt8)) (hk:40≤k) (hw:∀ K,ref09_row K (.node k n nm mk ks)=some r) (hr:r.length≤100) (h0:L≠[]) (he:r=Lib.join (L.map Prod.fst) [32]) (hL:∀ a∈L,(32:UInt8)∉a.1∧Ev (fun K=>ref09_part K (.node k n nm mk ks) a.1) a.2) (hs:lw (L.map Prod.snd)≤1099511627776) :
    Ev (fun K=>ref09_Text K (.node k n nm mk ks)) (jf (L.map Prod.snd)):=by
  refine Ev.step (fun k=>by rw [ref09_Text]) ?_
  refine Ev.dF (by omega) (Ev.dF (by omega) (Ev.bind (a:=r) ⟨0,fun K _=>hw K⟩ ?_))
  have:=row_run (t:=.node k n nm mk ks) hr L h0 hL [] 0 (by rw [List.drop_zero]; exact he) (by omega) (by simpa using hs)
  rw [show ([]:List UInt8)=jf [] from rfl,fold_jf,List.nil_append] at this
  exact this
end
end Go.Proofs.YtjhfgiieicloeaaGreatDoor

/- What the document writes of each form. Printed by gen9/k4.py. -/
namespace Go.Proofs.YtjhfgiieicloeaaGreatDoor
open Go Go.Am Go.Sx
theorem jf_two {a b:List UInt8} (ha:a≠[]) (hb:b≠[]) (l:List (List UInt8)):jf (a :: b :: l)=jf ((a++[32]++b) :: l):=by
  rw [jf_c ha,jf_c (by simp),filt_c hb,jtail_cons]
  simp
theorem jf_two' {a b:List UInt8} (x:List UInt8) (ha:a≠[]) (hb:b≠[]) (l:List (List UInt8)):jf (x :: a :: b :: l)=jf (x :: (a++[32]++b) :: l):=by
  by_cases hx:x=[]
  · subst hx
    rw [jf_e,jf_e,jf_two ha hb]
  · rw [jf_c hx,jf_c hx,filt_c ha,filt_c hb,filt_c (by simp:a++[32]++b≠[]),jtail_cons,jtail_cons,jtail_cons]
    simp
theorem jf_all {l:List (List UInt8)} (h:∀ v∈l,v≠[]):jf l=Lib.join l [32]:=by
  unfold jf
  rw [List.filter_eq_self.2 fun v hv=>ne_of (h v hv)]
section
variable {n:Int} {nm mk:List UInt8} {x y:Tr} {vx vy:List UInt8}
theorem rt_path (lnm:nm.length≤1000):Ev (fun K=>ref09_Text K (.node 41 n nm mk [])) (jf [nm]) :=
  rt_row (r:=[78]) [([78],nm)] (by decide) (fun _=>rfl) (by decide) (by simp) rfl (List.forall_mem_cons.2 ⟨⟨(show (32:UInt8)∉([78]:List UInt8) from by decide),part_N⟩,fun _ h=>nomatch h⟩) (by simp only [List.map_cons,List.map_nil,lw]; omega)
theorem rt_app (lnm:nm.length≤1000) (hx:Ev (fun K=>ref09_Text K x) vx) (lx:vx.length≤109951162777):Ev (fun K=>ref09_Text K (.node 42 n nm mk [x])) (jf [nm,[40],vx,[41]]) :=
  rt_row (r:=[78,32,40,32,48,32,41]) [([78],nm),([40],[40]),([48],vx),([41],[41])] (by decide) (fun _=>rfl) (by decide) (by simp) rfl (List.forall_mem_cons.2 ⟨⟨(show (32:UInt8)∉([78]:List UInt8) from by decide),part_N⟩,List.forall_mem_cons.2 ⟨⟨(show (32:UInt8)∉([40]:List UInt8) from by decide),part_w (by decide)⟩,List.forall_mem_cons.2 ⟨⟨(show (32:UInt8)∉([48]:List UInt8) from by decide),part_0 hx⟩,List.forall_mem_cons.2 ⟨⟨(show (32:UInt8)∉([41]:List UInt8) from by decide),part_w (by decide)⟩,fun _ h=>nomatch h⟩⟩⟩⟩) (by simp only [List.map_cons,List.map_nil,lw,List.length_cons,List.length_nil]; omega)
theorem rt_sl1 (hx:Ev (fun K=>ref09_Text K x) vx) (lx:vx.length≤109951162777) (hy:Ev (fun K=>ref09_Text K y) vy) (ly:vy.length≤109951162777):Ev (fun K=>ref09_Text K (.node 43 1 nm mk [x,y])) (jf [vx,[58,62],vy]) :=
  rt_row (r:=[48,32,58,62,32,49]) [([48],vx),([58,62],[58,62]),([49],vy)] (by decide) (fun _=>rfl) (by decide) (by simp) rfl (List.forall_mem_cons.2 ⟨⟨(show (32:UInt8)∉([48]:List UInt8) from by decide),part_0 hx⟩,List.forall_mem_cons.2 ⟨⟨(show (32:UInt8)∉([58,62]:List UInt8) from by decide),part_w (by decide)⟩,List.forall_mem_cons.2 ⟨⟨(show (32:UInt8)∉([49]:List UInt8) from by decide),part_1 hy⟩,fun _ h=>nomatch h⟩⟩⟩) (by simp only [List.map_cons,List.map_nil,lw,List.length_cons,List.length_nil]; omega)
theorem rt_sl0 (hx:Ev (fun K=>ref09_Text K x) vx) (lx:vx.length≤109951162777) (hy:Ev (fun K=>ref09_Text K y) vy) (ly:vy.length≤109951162777):Ev (fun K=>ref09_Text K (.node 43 0 nm mk [x,y])) (jf [vx,[58],vy]) :=
  rt_row (r:=[48,32,58,32,49]) [([48],vx),([58],[58]),([49],vy)] (by decide) (fun _=>rfl) (by decide) (by simp) rfl (List.forall_mem_cons.2 ⟨⟨(show (32:UInt8)∉([48]:List UInt8) from by decide),part_0 hx⟩,List.forall_mem_cons.2 ⟨⟨(show (32:UInt8)∉([58]:List UInt8) from by decide),part_w (by decide)⟩,List.forall_mem_cons.2 ⟨⟨(show (32:UInt8)∉([49]:List UInt8) from by decide),part_1 hy⟩,fun _ h=>nomatch h⟩⟩⟩) (by simp only [List.map_cons,List.map_nil,lw,List.length_cons,List.length_nil]; omega)
theorem rt_nam (lnm:nm.length≤1000):Ev (fun K=>ref09_Text K (.node 51 n nm mk [])) (jf [nm]) :=
  rt_row (r:=[78]) [([78],nm)] (by decide) (fun _=>rfl) (by decide) (by simp) rfl (List.forall_mem_cons.2 ⟨⟨(show (32:UInt8)∉([78]:List UInt8) from by decide),part_N⟩,fun _ h=>nomatch h⟩) (by simp only [List.map_cons,List.map_nil,lw]; omega)
theorem rt_whr (lnm:nm.length≤1000) (hx:Ev (fun K=>ref09_Text K x) vx) (lx:vx.length≤109951162777) (hy:Ev (fun K=>ref09_Text K y) vy) (ly:vy.length≤109951162777):Ev (fun K=>ref09_Text K (.node 52 n nm mk [x,y])) (jf [vx,[119,104,101,114,101],[116,121,112,101],nm,[61],vy]) :=
  rt_row (r:=[48,32,119,104,101,114,101,32,116,121,112,101,32,78,32,61,32,49]) [([48],vx),([119,104,101,114,101],[119,104,101,114,101]),([116,121,112,101],[116,121,112,101]),([78],nm),([61],[61]),([49],vy)] (by decide) (fun _=>rfl) (by decide) (by simp) rfl (List.forall_mem_cons.2 ⟨⟨(show (32:UInt8)∉([48]:List UInt8) from by decide),part_0 hx⟩,List.forall_mem_cons.2 ⟨⟨(show (32:UInt8)∉([119,104,101,114,101]:List UInt8) from by decide),part_w (by decide)⟩,List.forall_mem_cons.2 ⟨⟨(show (32:UInt8)∉([116,121,112,101]:List UInt8) from by decide),part_w (by decide)⟩,List.forall_mem_cons.2 ⟨⟨(show (32:UInt8)∉([78]:List UInt8) from by decide),part_N⟩,List.forall_mem_cons.2 ⟨⟨(show (32:UInt8)∉([61]:List UInt8) from by decide),part_w (by decide)⟩,List.forall_mem_cons.2 ⟨⟨(show (32:UInt8)∉([49]:List UInt8) from by decide),part_1 hy⟩,fun _ h=>nomatch h⟩⟩⟩⟩⟩⟩) (by simp only [List.map_cons,List.map_nil,lw,List.length_cons,List.length_nil]; omega)
theorem rt_pval (lnm:nm.length≤1000) (hx:Ev (fun K=>ref09_Text K x) vx) (lx:vx.length≤109951162777):Ev (fun K=>ref09_Text K (.node 60 n nm mk [x])) (jf [[118,97,108],nm,[58],vx]) :=
  rt_row (r:=[118,97,108,32,78,32,58,32,48]) [([118,97,108],[118,97,108]),([78],nm),([58],[58]),([48],vx)] (by decide) (fun _=>rfl) (by decide) (by simp) rfl (List.forall_mem_cons.2 ⟨⟨(show (32:UInt8)∉([118,97,108]:List UInt8) from by decide),part_w (by decide)⟩,List.forall_mem_cons.2 ⟨⟨(show (32:UInt8)∉([78]:List UInt8) from by decide),part_N⟩,List.forall_mem_cons.2 ⟨⟨(show (32:UInt8)∉([58]:List UInt8) from by decide),part_w (by decide)⟩,List.forall_mem_cons.2 ⟨⟨(show (32:UInt8)∉([48]:List UInt8) from by decide),part_0 hx⟩,fun _ h=>nomatch h⟩⟩⟩⟩) (by simp only [List.map_cons,List.map_nil,lw,List.length_cons,List.length_nil]; omega)
theorem rt_pty0 (lnm:nm.length≤1000):Ev (fun K=>ref09_Text K (.node 61 n nm mk [])) (jf [[116,121,112,101],nm]) :=
  rt_row (r:=[116,121,112,101,32,78]) [([116,121,112,101],[116,121,112,101]),([78],nm)] (by decide) (fun _=>rfl) (by decide) (by simp) rfl (List.forall_mem_cons.2 ⟨⟨(show (32:UInt8)∉([116,121,112,101]:List UInt8) from by decide),part_w (by decide)⟩,List.forall_mem_cons.2 ⟨⟨(show (32:UInt8)∉([78]:List UInt8) from by decide),part_N⟩,fun _ h=>nomatch h⟩⟩) (by simp only [List.map_cons,List.map_nil,lw,List.length_cons,List.length_nil]; omega)
theorem rt_pty1 (lnm:nm.length≤1000) (hx:Ev (fun K=>ref09_Text K x) vx) (lx:vx.length≤109951162777):Ev (fun K=>ref09_Text K (.node 61 n nm mk [x])) (jf [[116,121,112,101],nm,[61],vx]) :=
  rt_row (r:=[116,121,112,101,32,78,32,61,32,48]) [([116,121,112,101],[116,121,112,101]),([78],nm),([61],[61]),([48],vx)] (by decide) (fun _=>rfl) (by decide) (by simp) rfl (List.forall_mem_cons.2 ⟨⟨(show (32:UInt8)∉([116,121,112,101]:List UInt8) from by decide),part_w (by decide)⟩,List.forall_mem_cons.2 ⟨⟨(show (32:UInt8)∉([78]:List UInt8) from by decide),part_N⟩,List.forall_mem_cons.2 ⟨⟨(show (32:UInt8)∉([61]:List UInt8) from by decide),part_w (by decide)⟩,List.forall_mem_cons.2 ⟨⟨(show (32:UInt8)∉([48]:List UInt8) from by decide),part_0 hx⟩,fun _ h=>nomatch h⟩⟩⟩⟩) (by simp only [List.map_cons,List.map_nil,lw,List.length_cons,List.length_nil]; omega)
theorem rt_pstr (lnm:nm.length≤1000) (hx:Ev (fun K=>ref09_Text K x) vx) (lx:vx.length≤109951162777):Ev (fun K=>ref09_Text K (.node 63 n nm mk [x])) (jf [[115,116,114,117,99,116,117,114,101],nm,[58],vx]) :=
  rt_row (r:=[115,116,114,117,99,116,117,114,101,32,78,32,58,32,48]) [([115,116,114,117,99,116,117,114,101],[115,116,114,117,99,116,117,114,101]),([78],nm),([58],[58]),([48],vx)] (by decide) (fun _=>rfl) (by decide) (by simp) rfl (List.forall_mem_cons.2 ⟨⟨(show (32:UInt8)∉([115,116,114,117,99,116,117,114,101]:List UInt8) from by decide),part_w (by decide)⟩,List.forall_mem_cons.2 ⟨⟨(show (32:UInt8)∉([78]:List UInt8) from by decide),part_N⟩,List.forall_mem_cons.2 ⟨⟨(show (32:UInt8)∉([58]:List UInt8) from by decide),part_w (by decide)⟩,List.forall_mem_cons.2 ⟨⟨(show (32:UInt8)∉([48]:List UInt8) from by decide),part_0 hx⟩,fun _ h=>nomatch h⟩⟩⟩⟩) (by simp only [List.map_cons,List.map_nil,lw,List.length_cons,List.length_nil]; omega)
theorem rt_pinc (hx:Ev (fun K=>ref09_Text K x) vx) (lx:vx.length≤109951162777):Ev (fun K=>ref09_Text K (.node 64 n nm mk [x])) (jf [[105,110,99,108,117,100,101],vx]) :=
  rt_row (r:=[105,110,99,108,117,100,101,32,48]) [([105,110,99,108,117,100,101],[105,110,99,108,117,100,101]),([48],vx)] (by decide) (fun _=>rfl) (by decide) (by simp) rfl (List.forall_mem_cons.2 ⟨⟨(show (32:UInt8)∉([105,110,99,108,117,100,101]:List UInt8) from by decide),part_w (by decide)⟩,List.forall_mem_cons.2 ⟨⟨(show (32:UInt8)∉([48]:List UInt8) from by decide),part_0 hx⟩,fun _ h=>nomatch h⟩⟩) (by simp only [List.map_cons,List.map_nil,lw,List.length_cons,List.length_nil]; omega)
theorem rt_pshr (lmk:mk.length≤1000) (lnm:nm.length≤1000):Ev (fun K=>ref09_Text K (.node 65 n nm mk [])) (jf [[115,104,97,114,105,110,103],[116,121,112,101],nm,[61],mk]) :=
  rt_row (r:=[115,104,97,114,105,110,103,32,116,121,112,101,32,78,32,61,32,77]) [([115,104,97,114,105,110,103],[115,104,97,114,105,110,103]),([116,121,112,101],[116,121,112,101]),([78],nm),([61],[61]),([77],mk)] (by decide) (fun _=>rfl) (by decide) (by simp) rfl (List.forall_mem_cons.2 ⟨⟨(show (32:UInt8)∉([115,104,97,114,105,110,103]:List UInt8) from by decide),part_w (by decide)⟩,List.forall_mem_cons.2 ⟨⟨(show (32:UInt8)∉([116,121,112,101]:List UInt8) from by decide),part_w (by decide)⟩,List.forall_mem_cons.2 ⟨⟨(show (32:UInt8)∉([78]:List UInt8) from by decide),part_N⟩,List.forall_mem_cons.2 ⟨⟨(show (32:UInt8)∉([61]:List UInt8) from by decide),part_w (by decide)⟩,List.forall_mem_cons.2 ⟨⟨(show (32:UInt8)∉([77]:List UInt8) from by decide),part_M⟩,fun _ h=>nomatch h⟩⟩⟩⟩⟩) (by simp only [List.map_cons,List.map_nil,lw,List.length_cons,List.length_nil]; omega)
theorem rt_va2 (lnm:nm.length≤1000) (hx:Ev (fun K=>ref09_Text K x) vx) (lx:vx.length≤109951162777) (hy:Ev (fun K=>ref09_Text K y) vy) (ly:vy.length≤109951162777):Ev (fun K=>ref09_Text K (.node 70 n nm mk [x,y])) (jf [[118,97,108],nm,[58],vx,[61],vy]) :=
  rt_row (r:=[118,97,108,32,78,32,58,32,48,32,61,32,49]) [([118,97,108],[118,97,108]),([78],nm),([58],[58]),([48],vx),([61],[61]),([49],vy)] (by decide) (fun _=>rfl) (by decide) (by simp) rfl (List.forall_mem_cons.2 ⟨⟨(show (32:UInt8)∉([118,97,108]:List UInt8) from by decide),part_w (by decide)⟩,List.forall_mem_cons.2 ⟨⟨(show (32:UInt8)∉([78]:List UInt8) from by decide),part_N⟩,List.forall_mem_cons.2 ⟨⟨(show (32:UInt8)∉([58]:List UInt8) from by decide),part_w (by decide)⟩,List.forall_mem_cons.2 ⟨⟨(show (32:UInt8)∉([48]:List UInt8) from by decide),part_0 hx⟩,List.forall_mem_cons.2 ⟨⟨(show (32:UInt8)∉([61]:List UInt8) from by decide),part_w (by decide)⟩,List.forall_mem_cons.2 ⟨⟨(show (32:UInt8)∉([49]:List UInt8) from by decide),part_1 hy⟩,fun _ h=>nomatch h⟩⟩⟩⟩⟩⟩) (by simp only [List.map_cons,List.map_nil,lw,List.length_cons,List.length_nil]; omega)
theorem rt_va1 (lnm:nm.length≤1000) (hx:Ev (fun K=>ref09_Text K x) vx) (lx:vx.length≤109951162777):Ev (fun K=>ref09_Text K (.node 70 n nm mk [x])) (jf [[118,97,108],nm,[61],vx]) :=
  rt_row (r:=[118,97,108,32,78,32,61,32,48]) [([118,97,108],[118,97,108]),([78],nm),([61],[61]),([48],vx)] (by decide) (fun _=>rfl) (by decide) (by simp) rfl (List.forall_mem_cons.2 ⟨⟨(show (32:UInt8)∉([118,97,108]:List UInt8) from by decide),part_w (by decide)⟩,List.forall_mem_cons.2 ⟨⟨(show (32:UInt8)∉([78]:List UInt8) from by decide),part_N⟩,List.forall_mem_cons.2 ⟨⟨(show (32:UInt8)∉([61]:List UInt8) from by decide),part_w (by decide)⟩,List.forall_mem_cons.2 ⟨⟨(show (32:UInt8)∉([48]:List UInt8) from by decide),part_0 hx⟩,fun _ h=>nomatch h⟩⟩⟩⟩) (by simp only [List.map_cons,List.map_nil,lw,List.length_cons,List.length_nil]; omega)
theorem rt_ty (lnm:nm.length≤1000) (hx:Ev (fun K=>ref09_Text K x) vx) (lx:vx.length≤109951162777):Ev (fun K=>ref09_Text K (.node 71 n nm mk [x])) (jf [[116,121,112,101],nm,[61],vx]) :=
  rt_row (r:=[116,121,112,101,32,78,32,61,32,48]) [([116,121,112,101],[116,121,112,101]),([78],nm),([61],[61]),([48],vx)] (by decide) (fun _=>rfl) (by decide) (by simp) rfl (List.forall_mem_cons.2 ⟨⟨(show (32:UInt8)∉([116,121,112,101]:List UInt8) from by decide),part_w (by decide)⟩,List.forall_mem_cons.2 ⟨⟨(show (32:UInt8)∉([78]:List UInt8) from by decide),part_N⟩,List.forall_mem_cons.2 ⟨⟨(show (32:UInt8)∉([61]:List UInt8) from by decide),part_w (by decide)⟩,List.forall_mem_cons.2 ⟨⟨(show (32:UInt8)∉([48]:List UInt8) from by decide),part_0 hx⟩,fun _ h=>nomatch h⟩⟩⟩⟩) (by simp only [List.map_cons,List.map_nil,lw,List.length_cons,List.length_nil]; omega)
theorem rt_str (lnm:nm.length≤1000) (hx:Ev (fun K=>ref09_Text K x) vx) (lx:vx.length≤109951162777):Ev (fun K=>ref09_Text K (.node 73 n nm mk [x])) (jf [[115,116,114,117,99,116,117,114,101],nm,[61],vx]) :=
  rt_row (r:=[115,116,114,117,99,116,117,114,101,32,78,32,61,32,48]) [([115,116,114,117,99,116,117,114,101],[115,116,114,117,99,116,117,114,101]),([78],nm),([61],[61]),([48],vx)] (by decide) (fun _=>rfl) (by decide) (by simp) rfl (List.forall_mem_cons.2 ⟨⟨(show (32:UInt8)∉([115,116,114,117,99,116,117,114,101]:List UInt8) from by decide),part_w (by decide)⟩,List.forall_mem_cons.2 ⟨⟨(show (32:UInt8)∉([78]:List UInt8) from by decide),part_N⟩,List.forall_mem_cons.2 ⟨⟨(show (32:UInt8)∉([61]:List UInt8) from by decide),part_w (by decide)⟩,List.forall_mem_cons.2 ⟨⟨(show (32:UInt8)∉([48]:List UInt8) from by decide),part_0 hx⟩,fun _ h=>nomatch h⟩⟩⟩⟩) (by simp only [List.map_cons,List.map_nil,lw,List.length_cons,List.length_nil]; omega)
theorem rt_sig (lnm:nm.length≤1000) (hx:Ev (fun K=>ref09_Text K x) vx) (lx:vx.length≤109951162777):Ev (fun K=>ref09_Text K (.node 74 n nm mk [x])) (jf [[115,105,103,110,97,116,117,114,101],nm,[61],vx]) :=
  rt_row (r:=[115,105,103,110,97,116,117,114,101,32,78,32,61,32,48]) [([115,105,103,110,97,116,117,114,101],[115,105,103,110,97,116,117,114,101]),([78],nm),([61],[61]),([48],vx)] (by decide) (fun _=>rfl) (by decide) (by simp) rfl (List.forall_mem_cons.2 ⟨⟨(show (32:UInt8)∉([115,105,103,110,97,116,117,114,101]:List UInt8) from by decide),part_w (by decide)⟩,List.forall_mem_cons.2 ⟨⟨(show (32:UInt8)∉([78]:List UInt8) from by decide),part_N⟩,List.forall_mem_cons.2 ⟨⟨(show (32:UInt8)∉([61]:List UInt8) from by decide),part_w (by decide)⟩,List.forall_mem_cons.2 ⟨⟨(show (32:UInt8)∉([48]:List UInt8) from by decide),part_0 hx⟩,fun _ h=>nomatch h⟩⟩⟩⟩) (by simp only [List.map_cons,List.map_nil,lw,List.length_cons,List.length_nil]; omega)
theorem rt_fun (lmk:mk.length≤1000) (lnm:nm.length≤1000) (hx:Ev (fun K=>ref09_Text K x) vx) (lx:vx.length≤109951162777) (hy:Ev (fun K=>ref09_Text K y) vy) (ly:vy.length≤109951162777):Ev (fun K=>ref09_Text K (.node 75 n nm mk [x,y])) (jf [[102,117,110,99,116,111,114],nm,[40],mk,[58],vx,[41],[61],vy]) :=
  rt_row (r:=[102,117,110,99,116,111,114,32,78,32,40,32,77,32,58,32,48,32,41,32,61,32,49]) [([102,117,110,99,116,111,114],[102,117,110,99,116,111,114]),([78],nm),([40],[40]),([77],mk),([58],[58]),([48],vx),([41],[41]),([61],[61]),([49],vy)] (by decide) (fun _=>rfl) (by decide) (by simp) rfl (List.forall_mem_cons.2 ⟨⟨(show (32:UInt8)∉([102,117,110,99,116,111,114]:List UInt8) from by decide),part_w (by decide)⟩,List.forall_mem_cons.2 ⟨⟨(show (32:UInt8)∉([78]:List UInt8) from by decide),part_N⟩,List.forall_mem_cons.2 ⟨⟨(show (32:UInt8)∉([40]:List UInt8) from by decide),part_w (by decide)⟩,List.forall_mem_cons.2 ⟨⟨(show (32:UInt8)∉([77]:List UInt8) from by decide),part_M⟩,List.forall_mem_cons.2 ⟨⟨(show (32:UInt8)∉([58]:List UInt8) from by decide),part_w (by decide)⟩,List.forall_mem_cons.2 ⟨⟨(show (32:UInt8)∉([48]:List UInt8) from by decide),part_0 hx⟩,List.forall_mem_cons.2 ⟨⟨(show (32:UInt8)∉([41]:List UInt8) from by decide),part_w (by decide)⟩,List.forall_mem_cons.2 ⟨⟨(show (32:UInt8)∉([61]:List UInt8) from by decide),part_w (by decide)⟩,List.forall_mem_cons.2 ⟨⟨(show (32:UInt8)∉([49]:List UInt8) from by decide),part_1 hy⟩,fun _ h=>nomatch h⟩⟩⟩⟩⟩⟩⟩⟩⟩) (by simp only [List.map_cons,List.map_nil,lw,List.length_cons,List.length_nil]; omega)
theorem rt_opn (lnm:nm.length≤1000):Ev (fun K=>ref09_Text K (.node 76 n nm mk [])) (jf [[111,112,101,110],nm]) :=
  rt_row (r:=[111,112,101,110,32,78]) [([111,112,101,110],[111,112,101,110]),([78],nm)] (by decide) (fun _=>rfl) (by decide) (by simp) rfl (List.forall_mem_cons.2 ⟨⟨(show (32:UInt8)∉([111,112,101,110]:List UInt8) from by decide),part_w (by decide)⟩,List.forall_mem_cons.2 ⟨⟨(show (32:UInt8)∉([78]:List UInt8) from by decide),part_N⟩,fun _ h=>nomatch h⟩⟩) (by simp only [List.map_cons,List.map_nil,lw,List.length_cons,List.length_nil]; omega)
theorem rt_inc (lnm:nm.length≤1000):Ev (fun K=>ref09_Text K (.node 77 n nm mk [])) (jf [[105,110,99,108,117,100,101],nm]) :=
  rt_row (r:=[105,110,99,108,117,100,101,32,78]) [([105,110,99,108,117,100,101],[105,110,99,108,117,100,101]),([78],nm)] (by decide) (fun _=>rfl) (by decide) (by simp) rfl (List.forall_mem_cons.2 ⟨⟨(show (32:UInt8)∉([105,110,99,108,117,100,101]:List UInt8) from by decide),part_w (by decide)⟩,List.forall_mem_cons.2 ⟨⟨(show (32:UInt8)∉([78]:List UInt8) from by decide),part_N⟩,fun _ h=>nomatch h⟩⟩) (by simp only [List.map_cons,List.map_nil,lw,List.length_cons,List.length_nil]; omega)
theorem rt_strc {L:List TX} (hL:∀ a∈L,Ev (fun K=>ref09_Text K a.1) a.2) (hn:L.length≤1048576) (hj:(Lib.join (L.map Prod.snd) [32]).length≤109951162777):Ev (fun K=>ref09_Text K (.node 40 n nm mk (L.map Prod.fst))) (jf [[115,116,114,117,99,116],Lib.join (L.map Prod.snd) [32],[101,110,100]]) :=
  rt_row (r:=[115,116,114,117,99,116,32,42,32,101,110,100]) [([115,116,114,117,99,116],[115,116,114,117,99,116]),([42],Lib.join (L.map Prod.snd) [32]),([101,110,100],[101,110,100])] (by decide) (fun _=>rfl) (by decide) (by simp) rfl (List.forall_mem_cons.2 ⟨⟨(show (32:UInt8)∉([115,116,114,117,99,116]:List UInt8) from by decide),part_w (by decide)⟩,List.forall_mem_cons.2 ⟨⟨(show (32:UInt8)∉([42]:List UInt8) from by decide),part_s hL hn (by omega)⟩,List.forall_mem_cons.2 ⟨⟨(show (32:UInt8)∉([101,110,100]:List UInt8) from by decide),part_w (by decide)⟩,fun _ h=>nomatch h⟩⟩⟩) (by simp only [List.map_cons,List.map_nil,lw,List.length_cons,List.length_nil]; omega)
theorem rt_bod {L:List TX} (hL:∀ a∈L,Ev (fun K=>ref09_Text K a.1) a.2) (hn:L.length≤1048576) (hj:(Lib.join (L.map Prod.snd) [32]).length≤109951162777):Ev (fun K=>ref09_Text K (.node 50 n nm mk (L.map Prod.fst))) (jf [[115,105,103],Lib.join (L.map Prod.snd) [32],[101,110,100]]) :=
  rt_row (r:=[115,105,103,32,42,32,101,110,100]) [([115,105,103],[115,105,103]),([42],Lib.join (L.map Prod.snd) [32]),([101,110,100],[101,110,100])] (by decide) (fun _=>rfl) (by decide) (by simp) rfl (List.forall_mem_cons.2 ⟨⟨(show (32:UInt8)∉([115,105,103]:List UInt8) from by decide),part_w (by decide)⟩,List.forall_mem_cons.2 ⟨⟨(show (32:UInt8)∉([42]:List UInt8) from by decide),part_s hL hn (by omega)⟩,List.forall_mem_cons.2 ⟨⟨(show (32:UInt8)∉([101,110,100]:List UInt8) from by decide),part_w (by decide)⟩,fun _ h=>nomatch h⟩⟩⟩) (by simp only [List.map_cons,List.map_nil,lw,List.length_cons,List.length_nil]; omega)
theorem rt_pdat {L:List CN} (lnm:nm.length≤1000) (hL:∀ a∈L,Ev (fun K=>ref06_Text K a.2.1) a.2.2) (hn:L.length≤1048576) (hj:(Lib.join (L.map cnR9) barC).length≤109951162777):Ev (fun K=>ref09_Text K (.node 62 n nm mk (L.map cnT))) (jf [[100,97,116,97,116,121,112,101],nm,[61],Lib.join (L.map cnR9) barC]) :=
  rt_row (r:=[100,97,116,97,116,121,112,101,32,78,32,61,32,124]) [([100,97,116,97,116,121,112,101],[100,97,116,97,116,121,112,101]),([78],nm),([61],[61]),([124],Lib.join (L.map cnR9) barC)] (by decide) (fun _=>rfl) (by decide) (by simp) rfl (List.forall_mem_cons.2 ⟨⟨(show (32:UInt8)∉([100,97,116,97,116,121,112,101]:List UInt8) from by decide),part_w (by decide)⟩,List.forall_mem_cons.2 ⟨⟨(show (32:UInt8)∉([78]:List UInt8) from by decide),part_N⟩,List.forall_mem_cons.2 ⟨⟨(show (32:UInt8)∉([61]:List UInt8) from by decide),part_w (by decide)⟩,List.forall_mem_cons.2 ⟨⟨(show (32:UInt8)∉([124]:List UInt8) from by decide),part_b hL hn (by omega)⟩,fun _ h=>nomatch h⟩⟩⟩⟩) (by simp only [List.map_cons,List.map_nil,lw,List.length_cons,List.length_nil]; omega)
theorem rt_ddat {L:List CN} (lnm:nm.length≤1000) (hL:∀ a∈L,Ev (fun K=>ref06_Text K a.2.1) a.2.2) (hn:L.length≤1048576) (hj:(Lib.join (L.map cnR9) barC).length≤109951162777):Ev (fun K=>ref09_Text K (.node 72 n nm mk (L.map cnT))) (jf [[100,97,116,97,116,121,112,101],nm,[61],Lib.join (L.map cnR9) barC]) :=
  rt_row (r:=[100,97,116,97,116,121,112,101,32,78,32,61,32,124]) [([100,97,116,97,116,121,112,101],[100,97,116,97,116,121,112,101]),([78],nm),([61],[61]),([124],Lib.join (L.map cnR9) barC)] (by decide) (fun _=>rfl) (by decide) (by simp) rfl (List.forall_mem_cons.2 ⟨⟨(show (32:UInt8)∉([100,97,116,97,116,121,112,101]:List UInt8) from by decide),part_w (by decide)⟩,List.forall_mem_cons.2 ⟨⟨(show (32:UInt8)∉([78]:List UInt8) from by decide),part_N⟩,List.forall_mem_cons.2 ⟨⟨(show (32:UInt8)∉([61]:List UInt8) from by decide),part_w (by decide)⟩,List.forall_mem_cons.2 ⟨⟨(show (32:UInt8)∉([124]:List UInt8) from by decide),part_b hL hn (by omega)⟩,fun _ h=>nomatch h⟩⟩⟩⟩) (by simp only [List.map_cons,List.map_nil,lw,List.length_cons,List.length_nil]; omega)
end
end Go.Proofs.YtjhfgiieicloeaaGreatDoor

