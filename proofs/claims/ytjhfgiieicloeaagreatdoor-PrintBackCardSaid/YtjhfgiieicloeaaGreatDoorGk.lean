/- Joined texts: K0, K1, K1p, K2, K7c. -/
import Derived.Test.YtjhfgiieicloeaaGreatDoorGq
import Derived.Test.YtjhfgiieicloeaaGreatDoorGv
/- Texts that are not empty, with a blank between: what the program's words comes to. -/
namespace Go.Proofs.YtjhfgiieicloeaaGreatDoor
open Go Go.Am Go.Sx
theorem aFt (sep x:List UInt8) (r:List (List UInt8)):Lib.joinTail sep (x :: r)=sep++x++Lib.joinTail sep r:=by simp [Lib.joinTail]
def ne (s:List UInt8):Bool:=!decide (s=[])
theorem bJv {s:List UInt8} (h:s≠[]):ne s=true:=by simp [ne,h]
def jf (l:List (List UInt8)):List UInt8:=Lib.join (l.filter ne) [32]
theorem aQj {x:List UInt8} {l:List (List UInt8)} (h:x≠[]):(x :: l).filter ne=x :: l.filter ne:=by rw [List.filter_cons,if_pos (bJv h)]
theorem bFJ {x:List UInt8} {l:List (List UInt8)} (h:x≠[]):jf (x :: l)=x++Lib.joinTail [32] (l.filter ne):=by
 unfold jf
 rw [aQj h,Lib.join_cons]
def lw:List (List UInt8)→Nat
 | []=>0
 | x :: r=>x.length+1+lw r
theorem bAi:∀ l:List (List UInt8),(Lib.joinTail [32] (l.filter ne)).length≤lw l
 | []=>by simp [Lib.joinTail]
 | x :: r=>by
  have ih:=bAi r
  by_cases hx:x=[]
  ·subst hx
   show (Lib.joinTail [32] (r.filter ne)).length≤0+1+lw r
   omega
  ·rw [aQj hx,aFt,lw]
   simp only [List.length_append,List.length_cons,List.length_nil]
   omega
theorem aVt (l:List (List UInt8)):(jf l).length≤lw l:=by
 unfold jf
 have h:=bAi l
 cases hf:l.filter ne with
 | nil=>rw [Lib.join_nil]; simp
 | cons x r =>
  rw [hf,aFt] at h
  rw [Lib.join_cons]
  simp only [List.length_append,List.length_cons,List.length_nil] at h ⊢
  omega
theorem aXc:∀ l:List (List UInt8),l.length≤lw l
 | []=>by simp
 | x :: r=>by have:=aXc r; rw [lw,List.length_cons]; omega
theorem hU (l:List (List UInt8)) (h:lw l≤1099511627776):Ev (fun K=>bR K l) (jf l):=by
 have hl:=aXc l
 have loop:∀ (m i:Nat),l.length=i+m→Ev (fun K=>kR K ((l.take i).filter ne) l (i:Int)) (jf l):=by
  intro m
  induction m with
  | zero =>
   intro i hi
   rw [List.take_of_length_le (by omega)]
   refine Ev.step (fun k=>by rw [kR]) ?_
   refine Ev.dF (by omega) (Ev.ret ⟨0,fun K _=>?_⟩)
   have h1:=aVt l
   have h2:=List.length_filter_le ne l
   unfold jf at h1 ⊢
   show (if _ then _ else _)=_
   rw [if_pos ⟨by omega,by omega⟩]
  | succ m ih =>
   intro i hi
   have hlt:i<l.length:=by omega
   have hf:=List.length_filter_le ne (l.take i)
   rw [List.length_take] at hf
   refine Ev.step (fun k=>by rw [kR]) ?_
   refine Ev.dT (by omega) (Ev.opt (dL hlt) ?_)
   have:=ih (i+1) (by omega)
   rw [nG hlt,List.filter_append] at this
   rw [bZ (by omega)]
   refine Ev.n (fun e=>?_) (fun e=>?_)
   ·refine Ev.opt (cJ (by simp; omega)) ?_
    rw [aQj e] at this
    exact this
   ·rw [e] at this
    rw [show ([[]]:List (List UInt8)).filter ne=[] from rfl,List.append_nil] at this
    exact this
 refine Ev.congr (f:=fun K=>_) ?_ (fun k=>by rw [bR])
 exact loop l.length 0 (by omega)
end Go.Proofs.YtjhfgiieicloeaaGreatDoor

/- The program's writers of modules, signatures, specifications, declarations, form by form. -/
namespace Go.Proofs.YtjhfgiieicloeaaGreatDoor
open Go Go.Am Go.Sx
abbrev CN:=List UInt8×Tr×List UInt8
def cnT (a:CN):Tr:=.node 8 0 a.1 [] [a.2.1]
def cnX (a:CN):List UInt8:=jf [a.1,[111,102],a.2.2]
abbrev bJ9:List UInt8:=[32,124,32]
def aVf (L:List CN):List UInt8:=Lib.join (L.map cnX) bJ9
def bE2 (a:CN):Prop:=a.1.length≤1000∧a.2.2.length≤109951162777∧Ev (fun K=>jO K a.2.1) a.2.2
abbrev TX:=Tr×List UInt8
section
variable {n:Int} {nm mk:List UInt8} {x y:Tr} {vx vy:List UInt8}
theorem aXT {L:List CN} (hL:∀ a∈L,bE2 a) (hn:L.length≤1048576) (hj:(aVf L).length≤1099511627776):Ev (fun K=>aCz K (L.map cnT)) (aVf L):=by
 have loop:∀ (m i:Nat),L.length=i+m→Ev (fun K=>pB K ((L.map cnX).take i) (L.map cnT) (i:Int)) (aVf L):=by
  intro m
  induction m with
  | zero =>
   intro i hi
   rw [List.take_of_length_le (by simp; omega)]
   refine Ev.step (fun k=>by rw [pB]) ?_
   refine Ev.dF (by simp; omega) (Ev.ret ⟨0,fun K _=>?_⟩)
   show (if _ then _ else _)=_
   have:(Lib.join (L.map cnX) [32,124,32]).length≤1099511627776:=hj
   rw [if_pos ⟨by omega,by simp; omega⟩]
   rfl
  | succ m ih =>
   intro i hi
   have hlt:i<L.length:=by omega
   have hx:i<(L.map cnX).length:=by simp; omega
   have hr:i<(L.map cnT).length:=by simp; omega
   obtain ⟨o1,o2,o3⟩:=hL _ (List.getElem_mem hlt)
   have hg:aT (L.map cnT) (i:Int)=some (cnT L[i]):=by rw [dL hr,List.getElem_map]
   refine Ev.step (fun k=>by rw [pB]) ?_
   refine Ev.dT (by simp; omega) (Ev.opt hg ?_)
   refine Ev.opt (a:=L[i].2.1) rfl ?_
   refine Ev.bind o3 ?_
   refine Ev.bind (hU _ (by simp only [lw,List.length_cons,List.length_nil]; omega)) ?_
   refine Ev.opt (cJ (by simp; omega)) ?_
   rw [bZ (by omega)]
   have:=ih (i+1) (by omega)
   rw [nG hx,List.getElem_map] at this
   exact this
 refine Ev.congr (f:=fun K=>_) ?_ (fun k=>by rw [aCz])
 have:=loop L.length 0 (by omega)
 simpa using this
theorem bD2 {L:List TX} (hL:∀ a∈L,Ev (fun K=>eH K a.1) a.2) (hj:lw (L.map Prod.snd)≤1099511627776):Ev (fun K=>aCt K (L.map Prod.fst)) (jf (L.map Prod.snd)):=by
 have hn:=aXc (L.map Prod.snd)
 rw [List.length_map] at hn
 have loop:∀ (m i:Nat),L.length=i+m→Ev (fun K=>oQ K ((L.map Prod.snd).take i) (L.map Prod.fst) (i:Int)) (jf (L.map Prod.snd)):=by
  intro m
  induction m with
  | zero =>
   intro i hi
   rw [List.take_of_length_le (by simp; omega)]
   refine Ev.step (fun k=>by rw [oQ]) ?_
   exact Ev.dF (by simp; omega) (Ev.ret (hU _ hj))
  | succ m ih =>
   intro i hi
   have hlt:i<L.length:=by omega
   have hx:i<(L.map Prod.snd).length:=by simp; omega
   have hr:i<(L.map Prod.fst).length:=by simp; omega
   have hg:aT (L.map Prod.fst) (i:Int)=some L[i].1:=by rw [dL hr,List.getElem_map]
   refine Ev.step (fun k=>by rw [oQ]) ?_
   refine Ev.dT (by simp; omega) (Ev.opt hg ?_)
   refine Ev.bind (hL _ (List.getElem_mem hlt)) ?_
   refine Ev.opt (cJ (by simp; omega)) ?_
   rw [bZ (by omega)]
   have:=ih (i+1) (by omega)
   rw [nG hx,List.getElem_map] at this
   exact this
 refine Ev.step (fun k=>by rw [aCt]) ?_
 have:=loop L.length 0 (by omega)
 simpa using this
theorem bD1 {L:List TX} (hL:∀ a∈L,Ev (fun K=>bY K a.1) a.2) (hj:lw (L.map Prod.snd)≤1099511627776):Ev (fun K=>wY K (L.map Prod.fst)) (jf (L.map Prod.snd)):=by
 have hn:=aXc (L.map Prod.snd)
 rw [List.length_map] at hn
 have loop:∀ (m i:Nat),L.length=i+m→Ev (fun K=>lB K ((L.map Prod.snd).take i) (L.map Prod.fst) (i:Int)) (jf (L.map Prod.snd)):=by
  intro m
  induction m with
  | zero =>
   intro i hi
   rw [List.take_of_length_le (by simp; omega)]
   refine Ev.step (fun k=>by rw [lB]) ?_
   exact Ev.dF (by simp; omega) (Ev.ret (hU _ hj))
  | succ m ih =>
   intro i hi
   have hlt:i<L.length:=by omega
   have hx:i<(L.map Prod.snd).length:=by simp; omega
   have hr:i<(L.map Prod.fst).length:=by simp; omega
   have hg:aT (L.map Prod.fst) (i:Int)=some L[i].1:=by rw [dL hr,List.getElem_map]
   refine Ev.step (fun k=>by rw [lB]) ?_
   refine Ev.dT (by simp; omega) (Ev.opt hg ?_)
   refine Ev.bind (hL _ (List.getElem_mem hlt)) ?_
   refine Ev.opt (cJ (by simp; omega)) ?_
   rw [bZ (by omega)]
   have:=ih (i+1) (by omega)
   rw [nG hx,List.getElem_map] at this
   exact this
 refine Ev.step (fun k=>by rw [wY]) ?_
 have:=loop L.length 0 (by omega)
 simpa using this
/- forms -/
theorem bIc (lnm:nm.length≤1000) (hx:Ev (fun K=>jO K x) vx) (lx:vx.length≤109951162777):Ev (fun K=>eH K (.node 60 n nm mk [x])) (jf [[118,97,108],nm,[58],vx]):=by
 refine Ev.step (fun k=>by rw [eH]) ?_
 repeat' first | refine Ev.dT rfl ?_ | refine Ev.dF (by first | decide | simp) ?_
 refine Ev.opt (a:=x) rfl ?_
 refine Ev.bind hx ?_
 exact Ev.ret (hU _ (by simp only [lw,List.length_cons,List.length_nil]; omega))
theorem bIm (lnm:nm.length≤1000) (hx:Ev (fun K=>jO K x) vx) (lx:vx.length≤109951162777):Ev (fun K=>eH K (.node 61 n nm mk [x])) (jf [[116,121,112,101],nm,[61],vx]):=by
 refine Ev.step (fun k=>by rw [eH]) ?_
 repeat' first | refine Ev.dT rfl ?_ | refine Ev.dF (by first | decide | simp) ?_
 refine Ev.opt (a:=x) rfl ?_
 refine Ev.bind hx ?_
 exact Ev.ret (hU _ (by simp only [lw,List.length_cons,List.length_nil]; omega))
theorem bHF (lnm:nm.length≤1000):Ev (fun K=>eH K (.node 61 n nm mk [])) (jf [[116,121,112,101],nm]):=by
 refine Ev.step (fun k=>by rw [eH]) ?_
 repeat' first | refine Ev.dT rfl ?_ | refine Ev.dF (by first | decide | simp) ?_
 exact Ev.ret (hU _ (by simp only [lw,List.length_cons,List.length_nil]; omega))
theorem bG3 (lnm:nm.length≤1000) (hx:Ev (fun K=>fJ K x) vx) (lx:vx.length≤109951162777):Ev (fun K=>eH K (.node 63 n nm mk [x])) (jf [[115,116,114,117,99,116,117,114,101],nm,[58],vx]):=by
 refine Ev.step (fun k=>by rw [eH]) ?_
 repeat' first | refine Ev.dT rfl ?_ | refine Ev.dF (by first | decide | simp) ?_
 refine Ev.opt (a:=x) rfl ?_
 refine Ev.bind hx ?_
 exact Ev.ret (hU _ (by simp only [lw,List.length_cons,List.length_nil]; omega))
theorem bGL (hx:Ev (fun K=>fJ K x) vx) (lx:vx.length≤109951162777):Ev (fun K=>eH K (.node 64 n nm mk [x])) (jf [[105,110,99,108,117,100,101],vx]):=by
 refine Ev.step (fun k=>by rw [eH]) ?_
 repeat' first | refine Ev.dT rfl ?_ | refine Ev.dF (by first | decide | simp) ?_
 refine Ev.opt (a:=x) rfl ?_
 refine Ev.bind hx ?_
 exact Ev.ret (hU _ (by simp only [lw,List.length_cons,List.length_nil]; omega))
theorem bIg (lmk:mk.length≤1000) (lnm:nm.length≤1000):Ev (fun K=>eH K (.node 65 n nm mk [])) (jf [[115,104,97,114,105,110,103,32,116,121,112,101],nm,[61],mk]):=by
 refine Ev.step (fun k=>by rw [eH]) ?_
 repeat' first | refine Ev.dT rfl ?_ | refine Ev.dF (by first | decide | simp) ?_
 exact Ev.ret (hU _ (by simp only [lw,List.length_cons,List.length_nil]; omega))
theorem bGG (lnm:nm.length≤1000) (hx:Ev (fun K=>jO K x) vx) (lx:vx.length≤109951162777) (hy:Ev (fun K=>tL K y) vy) (ly:vy.length≤109951162777):Ev (fun K=>bY K (.node 70 n nm mk [x,y])) (jf [[118,97,108],nm,[58],vx,[61],vy]):=by
 refine Ev.step (fun k=>by rw [bY]) ?_
 repeat' first | refine Ev.dT rfl ?_ | refine Ev.dF (by first | decide | simp) ?_
 refine Ev.opt (a:=x) rfl ?_
 refine Ev.opt (a:=y) rfl ?_
 refine Ev.bind hx ?_
 refine Ev.bind hy ?_
 exact Ev.ret (hU _ (by simp only [lw,List.length_cons,List.length_nil]; omega))
theorem bHS (lnm:nm.length≤1000) (hx:Ev (fun K=>tL K x) vx) (lx:vx.length≤109951162777):Ev (fun K=>bY K (.node 70 n nm mk [x])) (jf [[118,97,108],nm,[61],vx]):=by
 refine Ev.step (fun k=>by rw [bY]) ?_
 repeat' first | refine Ev.dT rfl ?_ | refine Ev.dF (by first | decide | simp) ?_
 refine Ev.opt (a:=x) rfl ?_
 refine Ev.bind hx ?_
 exact Ev.ret (hU _ (by simp only [lw,List.length_cons,List.length_nil]; omega))
theorem bJb (lnm:nm.length≤1000) (hx:Ev (fun K=>jO K x) vx) (lx:vx.length≤109951162777):Ev (fun K=>bY K (.node 71 n nm mk [x])) (jf [[116,121,112,101],nm,[61],vx]):=by
 refine Ev.step (fun k=>by rw [bY]) ?_
 repeat' first | refine Ev.dT rfl ?_ | refine Ev.dF (by first | decide | simp) ?_
 refine Ev.opt (a:=x) rfl ?_
 refine Ev.bind hx ?_
 exact Ev.ret (hU _ (by simp only [lw,List.length_cons,List.length_nil]; omega))
theorem bGB (lnm:nm.length≤1000) (hx:Ev (fun K=>iF K x) vx) (lx:vx.length≤109951162777):Ev (fun K=>bY K (.node 73 n nm mk [x])) (jf [[115,116,114,117,99,116,117,114,101],nm,[61],vx]):=by
 refine Ev.step (fun k=>by rw [bY]) ?_
 repeat' first | refine Ev.dT rfl ?_ | refine Ev.dF (by first | decide | simp) ?_
 refine Ev.opt (a:=x) rfl ?_
 refine Ev.bind hx ?_
 exact Ev.ret (hU _ (by simp only [lw,List.length_cons,List.length_nil]; omega))
theorem bG4 (lnm:nm.length≤1000) (hx:Ev (fun K=>fJ K x) vx) (lx:vx.length≤109951162777):Ev (fun K=>bY K (.node 74 n nm mk [x])) (jf [[115,105,103,110,97,116,117,114,101],nm,[61],vx]):=by
 refine Ev.step (fun k=>by rw [bY]) ?_
 repeat' first | refine Ev.dT rfl ?_ | refine Ev.dF (by first | decide | simp) ?_
 refine Ev.opt (a:=x) rfl ?_
 refine Ev.bind hx ?_
 exact Ev.ret (hU _ (by simp only [lw,List.length_cons,List.length_nil]; omega))
theorem bHJ (lmk:mk.length≤1000) (lnm:nm.length≤1000) (hx:Ev (fun K=>fJ K x) vx) (lx:vx.length≤109951162777) (hy:Ev (fun K=>iF K y) vy) (ly:vy.length≤109951162777):Ev (fun K=>bY K (.node 75 n nm mk [x,y])) (jf [[102,117,110,99,116,111,114],nm,[40],mk,[58],vx,[41],[61],vy]):=by
 refine Ev.step (fun k=>by rw [bY]) ?_
 repeat' first | refine Ev.dT rfl ?_ | refine Ev.dF (by first | decide | simp) ?_
 refine Ev.opt (a:=x) rfl ?_
 refine Ev.opt (a:=y) rfl ?_
 refine Ev.bind hx ?_
 refine Ev.bind hy ?_
 exact Ev.ret (hU _ (by simp only [lw,List.length_cons,List.length_nil]; omega))
theorem bGW (lnm:nm.length≤1000):Ev (fun K=>bY K (.node 76 n nm mk [])) (jf [[111,112,101,110],nm]):=by
 refine Ev.step (fun k=>by rw [bY]) ?_
 repeat' first | refine Ev.dT rfl ?_ | refine Ev.dF (by first | decide | simp) ?_
 exact Ev.ret (hU _ (by simp only [lw,List.length_cons,List.length_nil]; omega))
theorem bIt (lnm:nm.length≤1000):Ev (fun K=>bY K (.node 77 n nm mk [])) (jf [[105,110,99,108,117,100,101],nm]):=by
 refine Ev.step (fun k=>by rw [bY]) ?_
 repeat' first | refine Ev.dT rfl ?_ | refine Ev.dF (by first | decide | simp) ?_
 exact Ev.ret (hU _ (by simp only [lw,List.length_cons,List.length_nil]; omega))
theorem bHa (lnm:nm.length≤1000) (hx:Ev (fun K=>fJ K x) vx) (lx:vx.length≤109951162777) (hy:Ev (fun K=>jO K y) vy) (ly:vy.length≤109951162777):Ev (fun K=>fJ K (.node 52 n nm mk [x,y])) (jf [vx,[119,104,101,114,101,32,116,121,112,101],nm,[61],vy]):=by
 refine Ev.step (fun k=>by rw [fJ]) ?_
 repeat' first | refine Ev.dT rfl ?_ | refine Ev.dF (by first | decide | simp) ?_
 refine Ev.opt (a:=x) rfl ?_
 refine Ev.opt (a:=y) rfl ?_
 refine Ev.bind hx ?_
 refine Ev.bind hy ?_
 exact Ev.ret (hU _ (by simp only [lw,List.length_cons,List.length_nil]; omega))
theorem bHd (lnm:nm.length≤1000) (hx:Ev (fun K=>iF K x) vx) (lx:vx.length≤109951162777):Ev (fun K=>iF K (.node 42 n nm mk [x])) (jf [nm,[40],vx,[41]]):=by
 refine Ev.step (fun k=>by rw [iF]) ?_
 repeat' first | refine Ev.dT rfl ?_ | refine Ev.dF (by first | decide | simp) ?_
 refine Ev.opt (a:=x) rfl ?_
 refine Ev.bind hx ?_
 exact Ev.ret (hU _ (by simp only [lw,List.length_cons,List.length_nil]; omega))
theorem bIr {L:List CN} (lnm:nm.length≤1000) (hL:∀ a∈L,bE2 a) (hn:L.length≤1048576) (hj:(aVf L).length≤109951162777):Ev (fun K=>eH K (.node 62 n nm mk (L.map cnT))) (jf [[100,97,116,97,116,121,112,101],nm,[61],aVf L]):=by
 refine Ev.step (fun k=>by rw [eH]) ?_
 repeat' first | refine Ev.dT rfl ?_ | refine Ev.dF (by decide) ?_
 refine Ev.bind (aXT hL hn (by omega)) ?_
 exact Ev.ret (hU _ (by simp only [lw,List.length_cons,List.length_nil]; omega))
theorem bIp {L:List CN} (lnm:nm.length≤1000) (hL:∀ a∈L,bE2 a) (hn:L.length≤1048576) (hj:(aVf L).length≤109951162777):Ev (fun K=>bY K (.node 72 n nm mk (L.map cnT))) (jf [[100,97,116,97,116,121,112,101],nm,[61],aVf L]):=by
 refine Ev.step (fun k=>by rw [bY]) ?_
 repeat' first | refine Ev.dT rfl ?_ | refine Ev.dF (by decide) ?_
 refine Ev.bind (aXT hL hn (by omega)) ?_
 exact Ev.ret (hU _ (by simp only [lw,List.length_cons,List.length_nil]; omega))
theorem bE3:Ev (fun K=>iF K (.node 41 n nm mk [])) nm:=by
 refine Ev.step (fun k=>by rw [iF]) ?_
 exact Ev.dT rfl Ev.pure
theorem bG2:Ev (fun K=>fJ K (.node 51 n nm mk [])) nm:=by
 refine Ev.step (fun k=>by rw [fJ]) ?_
 exact Ev.dT rfl Ev.pure
def sgn (n:Int):List UInt8:=if n=1 then [58,62] else [58]
theorem bJw (hx:Ev (fun K=>iF K x) vx) (lx:vx.length≤109951162777) (hy:Ev (fun K=>fJ K y) vy) (ly:vy.length≤109951162777):Ev (fun K=>iF K (.node 43 n nm mk [x,y])) (jf [vx,sgn n,vy]):=by
 refine Ev.step (fun k=>by rw [iF]) ?_
 have core:∀ s:List UInt8,s.length≤2→Ev (fun K=>tY K (.node 43 n nm mk [x,y]) s) (jf [vx,s,vy]):=fun s hs=>by
  refine Ev.step (fun k=>by rw [tY]) ?_
  refine Ev.opt (a:=x) rfl ?_
  refine Ev.opt (a:=y) rfl ?_
  refine Ev.bind hx (Ev.bind hy ?_)
  exact Ev.ret (hU _ (by simp only [lw]; omega))
 refine Ev.dF (by decide) (Ev.dF (by decide) (Ev.dT rfl ?_))
 unfold sgn
 refine Ev.d (fun h=>?_) (fun h=>?_)
 ·rw [if_pos h]; exact core _ (by decide)
 ·rw [if_neg h]; exact core _ (by decide)
theorem bE4 {L:List TX} (hL:∀ a∈L,Ev (fun K=>bY K a.1) a.2) (hj:lw (L.map Prod.snd)≤109951162777):Ev (fun K=>iF K (.node 40 n nm mk (L.map Prod.fst))) (jf [[115,116,114,117,99,116],jf (L.map Prod.snd),[101,110,100]]):=by
 have:=aVt (L.map Prod.snd)
 refine Ev.step (fun k=>by rw [iF]) ?_
 refine Ev.dF (by decide) (Ev.dF (by decide) (Ev.dF (by decide) (Ev.bind (bD1 hL (by omega)) ?_)))
 exact Ev.ret (hU _ (by simp only [lw,List.length_cons,List.length_nil]; omega))
theorem bGY {L:List TX} (hL:∀ a∈L,Ev (fun K=>eH K a.1) a.2) (hj:lw (L.map Prod.snd)≤109951162777):Ev (fun K=>fJ K (.node 50 n nm mk (L.map Prod.fst))) (jf [[115,105,103],jf (L.map Prod.snd),[101,110,100]]):=by
 have:=aVt (L.map Prod.snd)
 refine Ev.step (fun k=>by rw [fJ]) ?_
 refine Ev.dF (by decide) (Ev.dF (by decide) (Ev.bind (bD2 hL (by omega)) ?_))
 exact Ev.ret (hU _ (by simp only [lw,List.length_cons,List.length_nil]; omega))
end
end Go.Proofs.YtjhfgiieicloeaaGreatDoor

/- The program's writer of programs. -/
namespace Go.Proofs.YtjhfgiieicloeaaGreatDoor
open Go Go.Am Go.Sx
def prX (L:List TX):List UInt8:=(L.map fun a=>a.2++[10]).flatten
theorem aTG (a:TX) (L:List TX):prX (a :: L)=a.2++10 :: prX L:=by unfold prX; simp
theorem bD8 (L:List TX) {i:Nat} (h:i<L.length):prX (L.take (i+1))=prX (L.take i)++(L[i].2++[10]):=by
 unfold prX
 rw [nG h,List.map_append,List.flatten_append]
 simp
theorem bHn (L:List TX) (i:Nat):(prX (L.take i)).length≤(prX L).length:=by
 have:prX L=prX (L.take i)++prX (L.drop i):=by
  unfold prX
  rw [← List.flatten_append,← List.map_append,List.take_append_drop]
 rw [this,List.length_append]
 omega
theorem bEv:∀ L:List TX,(prX L).length=lw (L.map Prod.snd)
 | []=>rfl
 | a :: L=>by rw [aTG,List.map_cons,lw,← bEv L,List.length_append,List.length_cons]; omega
theorem bDd {L:List TX} (hL:∀ a∈L,Ev (fun K=>bY K a.1) a.2) (hn:L.length≤1048576) (hb:(prX L).length≤1099511627776):Ev (fun K=>oP K (L.map Prod.fst) [] 0) (prX L):=by
 have loop:∀ (m i:Nat),L.length=i+m→Ev (fun K=>oP K (L.map Prod.fst) (prX (L.take i)) (i:Int)) (prX L):=by
  intro m
  induction m with
  | zero =>
   intro i hi
   rw [List.take_of_length_le (by omega)]
   refine Ev.step (fun k=>by rw [oP]) ?_
   exact Ev.dF (by simp; omega) Ev.pure
  | succ m ih =>
   intro i hi
   have hlt:i<L.length:=by omega
   have hr:i<(L.map Prod.fst).length:=by simp; omega
   have hg:aT (L.map Prod.fst) (i:Int)=some L[i].1:=by rw [dL hr,List.getElem_map]
   have h1:=bHn L (i+1)
   have e:=bD8 L hlt
   have hl:=congrArg List.length e
   rw [List.length_append,List.length_append] at hl
   simp only [List.length_cons,List.length_nil] at hl
   refine Ev.step (fun k=>by rw [oP]) ?_
   refine Ev.dT (by simp; omega) (Ev.opt hg (Ev.bind (hL _ (List.getElem_mem hlt)) ?_))
   refine Ev.iteT (by omega) ?_
   rw [bZ (by omega),← e]
   exact ih (i+1) (by omega)
 exact loop L.length 0 (by omega)
end Go.Proofs.YtjhfgiieicloeaaGreatDoor

/- The forms of modules, signatures, specifications, declarations. Printed by gen9/k2.py. -/
namespace Go.Proofs.YtjhfgiieicloeaaGreatDoor
open Go Go.Am Go.Sx
theorem cO {n:Int} {nm mk:List UInt8} {ks:List Tr} {r:Row} (h:eD isT n nm mk ks r=true):aM8 nm r.2.2.1=true∧aM8 mk r.2.2.2.1=true∧(r.2.2.2.2.1≤n∧n≤r.2.2.2.2.2.1)∧dG isT r.2.2.2.2.2.2 ks=true:=iJ h
theorem aMY {a:UInt8} {c:Int} {l:List Tr} (h1:a≠42) (h2:a≠67) (h3:a≠65) (hc:catS a=c) (h:dG isT [a] l=true):∃ x,l=[x]∧isT c x=true:=by
 rw [aBo h1 h2 h3 hc] at h
 exact aSj h
theorem bA9 {a b:UInt8} {c d:Int} {l:List Tr} (h1:a≠42) (h2:a≠67) (h3:a≠65) (g1:b≠42) (g2:b≠67) (g3:b≠65) (hc:catS a=c) (hd:catS b=d) (h:dG isT [a,b] l=true):∃ x y,l=[x,y]∧isT c x=true∧isT d y=true:=by
 rw [vB h1 h2 h3 g1 g2 g3 hc hd] at h
 exact aKv h
theorem bGp {l:List Tr} (h:dG isT [67] l=true):rG (isT 8) [] l=true∧l≠[]:=by
 rw [k_C,Bool.and_eq_true] at h
 refine ⟨h.1,fun e=>?_⟩
 rw [e] at h; simp at h
theorem bCB {y:Tr} (h:innerS y=true):isT 6 y=true∧kindOf y≠74∧kindOf y≠75:=by
 unfold innerS aOw at h
 rw [Bool.and_eq_true] at h
 refine ⟨h.1,fun e=>?_,fun e=>?_⟩
 ·have:=h.2; rw [e] at this; cases this
 ·have:=h.2; rw [e] at this; cases this
inductive Md:Tr→Prop
 | strc (ks:List Tr) (hk:∀ y∈ks,isT 6 y=true∧kindOf y≠74∧kindOf y≠75):Md (.node 40 0 [] [] ks)
 | path (s:List UInt8) (h:lgS s=true):Md (.node 41 0 s [] [])
 | app (s:List UInt8) (a:Tr) (h:jG s=true) (ha:isT 3 a=true):Md (.node 42 0 s [] [a])
 | sl (n:Int) (a:Tr) (b:Tr) (hn:n=0∨n=1) (ha:isT 3 a=true) (hb:isT 4 b=true):Md (.node 43 n [] [] [a,b])
theorem bJl {t:Tr} (h:isT 3 t=true):Md t:=by
 obtain ⟨k,n,nm,mk,ks,rfl⟩:=aC0 h
 have hk:k∈eG 3:=by
  by_cases e:k∈eG 3
  ·exact e
  ·rw [lM e] at h; cases h
 have hk:k=40∨k=41∨k=42∨k=43:=by
  have e:eG 3=[40,41,42,43]:=rfl
  rw [e] at hk
  simp only [List.mem_cons,List.not_mem_nil,or_false] at hk
  omega
 rcases hk with rfl | rfl | rfl | rfl
 ·rw [aP (r:=(3,40,[],[],0,0,[42,105])) rfl] at h
  obtain ⟨h1,h2,h3,h4⟩:=cO h
  obtain rfl:=dI h1
  obtain rfl:=dI h2
  have h3:0≤n∧n≤0:=h3
  obtain rfl:n=0:=by omega
  rw [k_i] at h4
  exact .strc ks (fun y hy=>bCB (List.all_eq_true.1 h4 y hy))
 ·rw [aP (r:=(3,41,[108],[],0,0,[])) rfl] at h
  obtain ⟨h1,h2,h3,h4⟩:=cO h
  obtain rfl:=dI h2
  have h3:0≤n∧n≤0:=h3
  obtain rfl:n=0:=by omega
  obtain rfl:=aMu h4
  exact .path nm h1
 ·rw [aP (r:=(3,42,[110],[],0,0,[109])) rfl] at h
  obtain ⟨h1,h2,h3,h4⟩:=cO h
  obtain rfl:=dI h2
  have h3:0≤n∧n≤0:=h3
  obtain rfl:n=0:=by omega
  obtain ⟨x,rfl,hx⟩:=aMY (c:=3) (by decide) (by decide) (by decide) rfl h4
  exact .app nm x h1 hx
 ·rw [aP (r:=(3,43,[],[],0,1,[109,115])) rfl] at h
  obtain ⟨h1,h2,h3,h4⟩:=cO h
  obtain rfl:=dI h1
  obtain rfl:=dI h2
  have h3:0≤n∧n≤1:=h3
  obtain ⟨x,y,rfl,hx,hy⟩:=bA9 (c:=3) (d:=4) (by decide) (by decide) (by decide) (by decide) (by decide) (by decide) rfl rfl h4
  exact .sl n x y (by omega) hx hy
inductive Sg:Tr→Prop
 | bod (ks:List Tr) (hk:∀ y∈ks,isT 5 y=true):Sg (.node 50 0 [] [] ks)
 | nam (s:List UInt8) (h:jG s=true):Sg (.node 51 0 s [] [])
 | whr (s:List UInt8) (a:Tr) (b:Tr) (h:lgS s=true) (ha:isT 4 a=true) (hb:isT 1 b=true):Sg (.node 52 0 s [] [a,b])
theorem bI3 {t:Tr} (h:isT 4 t=true):Sg t:=by
 obtain ⟨k,n,nm,mk,ks,rfl⟩:=aC0 h
 have hk:k∈eG 4:=by
  by_cases e:k∈eG 4
  ·exact e
  ·rw [lM e] at h; cases h
 have hk:k=50∨k=51∨k=52:=by
  have e:eG 4=[50,51,52]:=rfl
  rw [e] at hk
  simp only [List.mem_cons,List.not_mem_nil,or_false] at hk
  omega
 rcases hk with rfl | rfl | rfl
 ·rw [aP (r:=(4,50,[],[],0,0,[42,112])) rfl] at h
  obtain ⟨h1,h2,h3,h4⟩:=cO h
  obtain rfl:=dI h1
  obtain rfl:=dI h2
  have h3:0≤n∧n≤0:=h3
  obtain rfl:n=0:=by omega
  rw [k_p] at h4
  exact .bod ks (fun y hy=>List.all_eq_true.1 h4 y hy)
 ·rw [aP (r:=(4,51,[110],[],0,0,[])) rfl] at h
  obtain ⟨h1,h2,h3,h4⟩:=cO h
  obtain rfl:=dI h2
  have h3:0≤n∧n≤0:=h3
  obtain rfl:n=0:=by omega
  obtain rfl:=aMu h4
  exact .nam nm h1
 ·rw [aP (r:=(4,52,[108],[],0,0,[115,116])) rfl] at h
  obtain ⟨h1,h2,h3,h4⟩:=cO h
  obtain rfl:=dI h2
  have h3:0≤n∧n≤0:=h3
  obtain rfl:n=0:=by omega
  obtain ⟨x,y,rfl,hx,hy⟩:=bA9 (c:=4) (d:=1) (by decide) (by decide) (by decide) (by decide) (by decide) (by decide) rfl rfl h4
  exact .whr nm x y h1 hx hy
inductive Sp:Tr→Prop
 | val (s:List UInt8) (a:Tr) (h:jG s=true) (ha:isT 1 a=true):Sp (.node 60 0 s [] [a])
 | ty1 (s:List UInt8) (a:Tr) (h:jG s=true) (ha:isT 1 a=true):Sp (.node 61 0 s [] [a])
 | ty0 (s:List UInt8) (h:jG s=true):Sp (.node 61 0 s [] [])
 | dat (s:List UInt8) (ks:List Tr) (h:jG s=true) (hk:rG (isT 8) [] ks=true) (h0:ks≠[]):Sp (.node 62 0 s [] ks)
 | str (s:List UInt8) (a:Tr) (h:jG s=true) (ha:isT 4 a=true):Sp (.node 63 0 s [] [a])
 | inc (a:Tr) (ha:isT 4 a=true):Sp (.node 64 0 [] [] [a])
 | shr (s:List UInt8) (x:List UInt8) (h:lgS s=true) (hx:lgS x=true):Sp (.node 65 0 s x [])
theorem bIU {t:Tr} (h:isT 5 t=true):Sp t:=by
 obtain ⟨k,n,nm,mk,ks,rfl⟩:=aC0 h
 have hk:k∈eG 5:=by
  by_cases e:k∈eG 5
  ·exact e
  ·rw [lM e] at h; cases h
 have hk:k=60∨k=61∨k=62∨k=63∨k=64∨k=65:=by
  have e:eG 5=[60,61,61,62,63,64,65]:=rfl
  rw [e] at hk
  simp only [List.mem_cons,List.not_mem_nil,or_false] at hk
  omega
 rcases hk with rfl | rfl | rfl | rfl | rfl | rfl
 ·rw [aP (r:=(5,60,[110],[],0,0,[116])) rfl] at h
  obtain ⟨h1,h2,h3,h4⟩:=cO h
  obtain rfl:=dI h2
  have h3:0≤n∧n≤0:=h3
  obtain rfl:n=0:=by omega
  obtain ⟨x,rfl,hx⟩:=aMY (c:=1) (by decide) (by decide) (by decide) rfl h4
  exact .val nm x h1 hx
 ·rw [aKI (r:=(5,61,[110],[],0,0,[116])) (r':=(5,61,[110],[],0,0,[])) rfl,Bool.or_eq_true] at h
  rcases h with h | h
  ·obtain ⟨h1,h2,h3,h4⟩:=cO h
   obtain rfl:=dI h2
   have h3:0≤n∧n≤0:=h3
   obtain rfl:n=0:=by omega
   obtain ⟨x,rfl,hx⟩:=aMY (c:=1) (by decide) (by decide) (by decide) rfl h4
   exact .ty1 nm x h1 hx
  ·obtain ⟨h1,h2,h3,h4⟩:=cO h
   obtain rfl:=dI h2
   have h3:0≤n∧n≤0:=h3
   obtain rfl:n=0:=by omega
   obtain rfl:=aMu h4
   exact .ty0 nm h1
 ·rw [aP (r:=(5,62,[110],[],0,0,[67])) rfl] at h
  obtain ⟨h1,h2,h3,h4⟩:=cO h
  obtain rfl:=dI h2
  have h3:0≤n∧n≤0:=h3
  obtain rfl:n=0:=by omega
  obtain ⟨g1,g2⟩:=bGp h4
  exact .dat nm ks h1 g1 g2
 ·rw [aP (r:=(5,63,[110],[],0,0,[115])) rfl] at h
  obtain ⟨h1,h2,h3,h4⟩:=cO h
  obtain rfl:=dI h2
  have h3:0≤n∧n≤0:=h3
  obtain rfl:n=0:=by omega
  obtain ⟨x,rfl,hx⟩:=aMY (c:=4) (by decide) (by decide) (by decide) rfl h4
  exact .str nm x h1 hx
 ·rw [aP (r:=(5,64,[],[],0,0,[115])) rfl] at h
  obtain ⟨h1,h2,h3,h4⟩:=cO h
  obtain rfl:=dI h1
  obtain rfl:=dI h2
  have h3:0≤n∧n≤0:=h3
  obtain rfl:n=0:=by omega
  obtain ⟨x,rfl,hx⟩:=aMY (c:=4) (by decide) (by decide) (by decide) rfl h4
  exact .inc x hx
 ·rw [aP (r:=(5,65,[108],[108],0,0,[])) rfl] at h
  obtain ⟨h1,h2,h3,h4⟩:=cO h
  have h3:0≤n∧n≤0:=h3
  obtain rfl:n=0:=by omega
  obtain rfl:=aMu h4
  exact .shr nm mk h1 h2
inductive Dc:Tr→Prop
 | va1 (s:List UInt8) (a:Tr) (h:jG s=true) (ha:isT 2 a=true):Dc (.node 70 0 s [] [a])
 | va2 (s:List UInt8) (a:Tr) (b:Tr) (h:jG s=true) (ha:isT 1 a=true) (hb:isT 2 b=true):Dc (.node 70 0 s [] [a,b])
 | ty (s:List UInt8) (a:Tr) (h:jG s=true) (ha:isT 1 a=true):Dc (.node 71 0 s [] [a])
 | dat (s:List UInt8) (ks:List Tr) (h:jG s=true) (hk:rG (isT 8) [] ks=true) (h0:ks≠[]):Dc (.node 72 0 s [] ks)
 | str (s:List UInt8) (a:Tr) (h:jG s=true) (ha:isT 3 a=true):Dc (.node 73 0 s [] [a])
 | sig (s:List UInt8) (a:Tr) (h:jG s=true) (ha:isT 4 a=true):Dc (.node 74 0 s [] [a])
 | fun_ (s:List UInt8) (x:List UInt8) (a:Tr) (b:Tr) (h:jG s=true) (hx:jG x=true) (ha:isT 4 a=true) (hb:isT 3 b=true):Dc (.node 75 0 s x [a,b])
 | opn (s:List UInt8) (h:lgS s=true):Dc (.node 76 0 s [] [])
 | inc (s:List UInt8) (h:lgS s=true):Dc (.node 77 0 s [] [])
theorem bJE {t:Tr} (h:isT 6 t=true):Dc t:=by
 obtain ⟨k,n,nm,mk,ks,rfl⟩:=aC0 h
 have hk:k∈eG 6:=by
  by_cases e:k∈eG 6
  ·exact e
  ·rw [lM e] at h; cases h
 have hk:k=70∨k=71∨k=72∨k=73∨k=74∨k=75∨k=76∨k=77:=by
  have e:eG 6=[70,70,71,72,73,74,75,76,77]:=rfl
  rw [e] at hk
  simp only [List.mem_cons,List.not_mem_nil,or_false] at hk
  omega
 rcases hk with rfl | rfl | rfl | rfl | rfl | rfl | rfl | rfl
 ·rw [aKI (r:=(6,70,[110],[],0,0,[101])) (r':=(6,70,[110],[],0,0,[116,101])) rfl,Bool.or_eq_true] at h
  rcases h with h | h
  ·obtain ⟨h1,h2,h3,h4⟩:=cO h
   obtain rfl:=dI h2
   have h3:0≤n∧n≤0:=h3
   obtain rfl:n=0:=by omega
   obtain ⟨x,rfl,hx⟩:=aMY (c:=2) (by decide) (by decide) (by decide) rfl h4
   exact .va1 nm x h1 hx
  ·obtain ⟨h1,h2,h3,h4⟩:=cO h
   obtain rfl:=dI h2
   have h3:0≤n∧n≤0:=h3
   obtain rfl:n=0:=by omega
   obtain ⟨x,y,rfl,hx,hy⟩:=bA9 (c:=1) (d:=2) (by decide) (by decide) (by decide) (by decide) (by decide) (by decide) rfl rfl h4
   exact .va2 nm x y h1 hx hy
 ·rw [aP (r:=(6,71,[110],[],0,0,[116])) rfl] at h
  obtain ⟨h1,h2,h3,h4⟩:=cO h
  obtain rfl:=dI h2
  have h3:0≤n∧n≤0:=h3
  obtain rfl:n=0:=by omega
  obtain ⟨x,rfl,hx⟩:=aMY (c:=1) (by decide) (by decide) (by decide) rfl h4
  exact .ty nm x h1 hx
 ·rw [aP (r:=(6,72,[110],[],0,0,[67])) rfl] at h
  obtain ⟨h1,h2,h3,h4⟩:=cO h
  obtain rfl:=dI h2
  have h3:0≤n∧n≤0:=h3
  obtain rfl:n=0:=by omega
  obtain ⟨g1,g2⟩:=bGp h4
  exact .dat nm ks h1 g1 g2
 ·rw [aP (r:=(6,73,[110],[],0,0,[109])) rfl] at h
  obtain ⟨h1,h2,h3,h4⟩:=cO h
  obtain rfl:=dI h2
  have h3:0≤n∧n≤0:=h3
  obtain rfl:n=0:=by omega
  obtain ⟨x,rfl,hx⟩:=aMY (c:=3) (by decide) (by decide) (by decide) rfl h4
  exact .str nm x h1 hx
 ·rw [aP (r:=(6,74,[110],[],0,0,[115])) rfl] at h
  obtain ⟨h1,h2,h3,h4⟩:=cO h
  obtain rfl:=dI h2
  have h3:0≤n∧n≤0:=h3
  obtain rfl:n=0:=by omega
  obtain ⟨x,rfl,hx⟩:=aMY (c:=4) (by decide) (by decide) (by decide) rfl h4
  exact .sig nm x h1 hx
 ·rw [aP (r:=(6,75,[110],[110],0,0,[115,109])) rfl] at h
  obtain ⟨h1,h2,h3,h4⟩:=cO h
  have h3:0≤n∧n≤0:=h3
  obtain rfl:n=0:=by omega
  obtain ⟨x,y,rfl,hx,hy⟩:=bA9 (c:=4) (d:=3) (by decide) (by decide) (by decide) (by decide) (by decide) (by decide) rfl rfl h4
  exact .fun_ nm mk x y h1 h2 hx hy
 ·rw [aP (r:=(6,76,[108],[],0,0,[])) rfl] at h
  obtain ⟨h1,h2,h3,h4⟩:=cO h
  obtain rfl:=dI h2
  have h3:0≤n∧n≤0:=h3
  obtain rfl:n=0:=by omega
  obtain rfl:=aMu h4
  exact .opn nm h1
 ·rw [aP (r:=(6,77,[108],[],0,0,[])) rfl] at h
  obtain ⟨h1,h2,h3,h4⟩:=cO h
  obtain rfl:=dI h2
  have h3:0≤n∧n≤0:=h3
  obtain rfl:n=0:=by omega
  obtain rfl:=aMu h4
  exact .inc nm h1
theorem bFK {t:Tr} (h:isT 7 t=true):∃ ks,t=.node 80 0 [] [] ks∧∀ y∈ks,isT 6 y=true:=by
 obtain ⟨k,n,nm,mk,ks,rfl⟩:=aC0 h
 have hk:k∈eG 7:=by
  by_cases e:k∈eG 7
  ·exact e
  ·rw [lM e] at h; cases h
 have hk:k=80:=by simpa [show eG 7=[80] from rfl] using hk
 subst hk
 rw [aP (r:=(7,80,[],[],0,0,[42,100])) rfl] at h
 obtain ⟨h1,h2,h3,h4⟩:=cO h
 obtain rfl:=dI h1
 obtain rfl:=dI h2
 have h3:0≤n∧n≤0:=h3
 obtain rfl:n=0:=by omega
 rw [k_d] at h4
 exact ⟨ks,rfl,fun y hy=>List.all_eq_true.1 h4 y hy⟩
theorem bHL {y:Tr} (h:isT 8 y=true):∃ c t,y=.node 8 0 c [] [t]∧jG c=true∧isT 1 t=true:=by
 obtain ⟨k,n,nm,mk,ks,rfl⟩:=aC0 h
 have hk:k=8:=by
  by_cases e:k∈eG 8
  ·simpa [show eG 8=[8] from rfl] using e
  ·rw [lM e] at h; cases h
 subst hk
 rw [aP (r:=(8,8,[110],[],0,0,[116])) rfl] at h
 obtain ⟨h1,h2,h3,h4⟩:=iJ h
 obtain rfl:=dI h2
 obtain ⟨x,rfl,hx⟩:=aMY (c:=1) (by decide) (by decide) (by decide) rfl h4
 have h3:0≤n∧n≤0:=h3
 obtain rfl:n=0:=by omega
 exact ⟨nm,x,rfl,h1,hx⟩
structure Sm (y:Tr):Prop where
 g:Good y
 w:y.w≤1048576
 s:mV y≤8192
 d:qC y≤60
theorem Sm.kid {k n:Int} {nm mk:List UInt8} {ks:List Tr} (h:Sm (.node k n nm mk ks)) {y:Tr} (hy:y∈ks):Sm y:=by
 obtain ⟨hg,hw,hs,hd⟩:=h
 cases hg with
 | mk g1 g2 g3 g4 =>
  rw [aH] at hw
  rw [aCk] at hs
  rw [aIo] at hd
  exact ⟨g4 y hy,by have:=aB1 hy; omega,by have:=aPS hy; omega,by have:=aQf (d:=0) hy; omega⟩
end Go.Proofs.YtjhfgiieicloeaaGreatDoor

/- The cells that the laws of layer 9 look at; the checks; the example. -/
namespace Go.Proofs.YtjhfgiieicloeaaGreatDoor
open Go Go.Am Go.Sx
def aTO (p:List Cell):List Cell:=(p.take 120).map bCe
theorem aTN {p:List Cell}:∀ (m i:Nat) (acc:List Cell),i+m=min p.length 120→acc.length=i→Ev (fun K=>mW K p (i:Int) acc) (acc++((p.take 120).drop i).map bCe):=by
 intro m
 induction m with
 | zero =>
  intro i acc hi ha
  refine Ev.step (fun k=>by rw [mW]) ?_
  have hd:(p.take 120).drop i=[]:=List.drop_of_length_le (by simp; omega)
  rw [hd]
  refine Ev.d (fun h=>?_) (fun _=>Ev.pure' (by simp))
  exact Ev.dF (by omega) (Ev.pure' (by simp))
 | succ m ihm =>
  intro i acc hi ha
  have hlt:i<p.length:=by omega
  have hlt':i<(p.take 120).length:=by simp; omega
  refine Ev.step (fun k=>by rw [mW]) ?_
  refine Ev.dT (by omega) (Ev.dT (by omega) (Ev.opt (dL hlt) ?_))
  refine Ev.opt (aWH (m:=130)) (Ev.opt (aWH (m:=130)) (Ev.opt (aWH (m:=12)) ?_))
  refine Ev.opt (cJ (by simp; omega)) (Ev.opt (cJ (by simp; omega)) ?_)
  rw [bZ (by omega),iL hlt',List.map_cons]
  have:=ihm (i+1) (acc++[bCe p[i]]) (by omega) (by simp [ha])
  rw [List.append_assoc] at this
  simpa [bCe] using this
theorem bBP (p:List Cell):Ev (fun K=>aDo K p) (aTO p):=by
 have:=aTN (p:=p) (min p.length 120) 0 [] (by omega) rfl
 simpa [aDo,aTO] using this
theorem bEh (p:List Cell):∀ c∈aTO p,c.2.2.1.length≤130∧c.2.2.2.1.length≤130∧c.2.2.2.2.length≤12:=by
 intro c h
 simp only [aTO,List.mem_map] at h
 obtain ⟨x,_,rfl⟩:=h
 simp [bCe]; omega
theorem aZ0 (p:List Cell):aUN (xQ (aTO p)).1:=by
 refine ⟨Nat.le_trans (bAo _) (by decide),fun hf=>?_⟩
 rcases aKh (aTO p) with ⟨h,_⟩ | ⟨h0,h1,h2,h3,h4,h5,h6,h7,_⟩
 ·rw [h,aLE] at hf; cases hf
 ·rw [h6]
  exact aZp h7 (fun c hc=>by have:=bEh p c hc; omega) (aTO p).length _ (by omega) (by omega)
theorem bB4 (p:List Cell):∀ c∈aTO p,c.2.2.2.2.length≤1048576:=fun c hc=>by have:=bEh p c hc; omega
theorem aX0 {c:Int} {t:Tr} (h0:chk c t=0):isT c t=true∧sH t=true∧mV t≤8192∧qC t≤60:=by
 unfold chk at h0
 by_cases h1:(aJc t).2=0
 ·rw [if_pos h1] at h0
  by_cases h2:60<qC t
  ·rw [if_pos h2] at h0; cases h0
  ·rw [if_neg h2] at h0
   have hz:mV t≤8192:=by
    unfold aJc at h1
    rw [if_pos (aQF h1)] at h1
    by_cases hz:8192<mV t
    ·rw [if_pos hz] at h1; cases h1
    ·omega
   cases hi:isT c t with
   | false=>rw [hi] at h0; cases h0
   | true=>exact ⟨rfl,aQF h1,hz,by omega⟩
 ·rw [if_neg h1] at h0; exact absurd h0 h1
theorem bEN {t:Tr} (h:aUN t):Ev (fun K=>aIx K t) (chk 2 t):=Ev.congr (f:=fun _K=>_) (Ev.ret (Ev.congr (f:=fun _K=>_) (aZO (f:=fN) h fun g=>(bAO t g).1) (fun _=>rfl))) (fun _=>rfl)
theorem bA7 {t:Tr} (h:aUN t):Ev (fun K=>aE4 K t) (chk 7 t):=Ev.congr (f:=fun _K=>_) (Ev.ret (Ev.congr (f:=fun _K=>_) (aZO (f:=xN) h fun g=>bFd t g) (fun _=>rfl))) (fun _=>rfl)
theorem bHV (k:Nat):vL (k+80)=some true:=by kernel_rfl
theorem aLr:Ev (fun K=>vL K) true:=⟨80,fun K hK=>by
 have:=bHV (K - 80)
 rwa [show K - 80+80=K by omega] at this⟩
end Go.Proofs.YtjhfgiieicloeaaGreatDoor

