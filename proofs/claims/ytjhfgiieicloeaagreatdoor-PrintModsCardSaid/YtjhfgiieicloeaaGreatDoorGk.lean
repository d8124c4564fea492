/- Joined texts: K0, K1, K1p, K2, K7c. -/
import Derived.Test.YtjhfgiieicloeaaGreatDoorGq
import Derived.Test.YtjhfgiieicloeaaGreatDoorGv
/- Texts that are not empty, with a blank between: what the program's words comes to. -/
namespace Go.Proofs.YtjhfgiieicloeaaGreatDoor
open Go Go.Am Go.Sx
theorem aFs (sep x:List UInt8) (r:List (List UInt8)):Lib.joinTail sep (x :: r)=sep++x++Lib.joinTail sep r:=by simp [Lib.joinTail]
def ne (s:List UInt8):Bool:=!decide (s=[])
theorem bIP {s:List UInt8} (h:s≠[]):ne s=true:=by simp [ne,h]
def jf (l:List (List UInt8)):List UInt8:=Lib.join (l.filter ne) [32]
theorem aQx {x:List UInt8} {l:List (List UInt8)} (h:x≠[]):(x :: l).filter ne=x :: l.filter ne:=by rw [List.filter_cons,if_pos (bIP h)]
theorem bFr {x:List UInt8} {l:List (List UInt8)} (h:x≠[]):jf (x :: l)=x++Lib.joinTail [32] (l.filter ne):=by
 unfold jf
 rw [aQx h,Lib.join_cons]
def lw:List (List UInt8)→Nat
 | []=>0
 | x :: r=>x.length+1+lw r
theorem bA3:∀ l:List (List UInt8),(Lib.joinTail [32] (l.filter ne)).length≤lw l
 | []=>by simp [Lib.joinTail]
 | x :: r=>by
  have ih:=bA3 r
  by_cases hx:x=[]
  ·subst hx
   show (Lib.joinTail [32] (r.filter ne)).length≤0+1+lw r
   omega
  ·rw [aQx hx,aFs,lw]
   simp only [List.length_append,List.length_cons,List.length_nil]
   omega
theorem aVT (l:List (List UInt8)):(jf l).length≤lw l:=by
 unfold jf
 have h:=bA3 l
 cases hf:l.filter ne with
 | nil=>rw [Lib.join_nil]; simp
 | cons x r =>
  rw [hf,aFs] at h
  rw [Lib.join_cons]
  simp only [List.length_append,List.length_cons,List.length_nil] at h ⊢
  omega
theorem aW7:∀ l:List (List UInt8),l.length≤lw l
 | []=>by simp
 | x :: r=>by have:=aW7 r; rw [lw,List.length_cons]; omega
theorem gV (l:List (List UInt8)) (h:lw l≤1099511627776):Ev (fun K=>bR K l) (jf l):=by
 have hl:=aW7 l
 have loop:∀ (m i:Nat),l.length=i+m→Ev (fun K=>kN K ((l.take i).filter ne) l (i:Int)) (jf l):=by
  intro m
  induction m with
  | zero =>
   intro i hi
   rw [List.take_of_length_le (by omega)]
   refine Ev.step (fun k=>by rw [kN]) ?_
   refine Ev.dF (by omega) (Ev.ret ⟨0,fun K _=>?_⟩)
   have h1:=aVT l
   have h2:=List.length_filter_le ne l
   unfold jf at h1 ⊢
   show (if _ then _ else _)=_
   rw [if_pos ⟨by omega,by omega⟩]
  | succ m ih =>
   intro i hi
   have hlt:i<l.length:=by omega
   have hf:=List.length_filter_le ne (l.take i)
   rw [List.length_take] at hf
   refine Ev.step (fun k=>by rw [kN]) ?_
   refine Ev.dT (by omega) (Ev.opt (dX hlt) ?_)
   have:=ih (i+1) (by omega)
   rw [oZ hlt,List.filter_append] at this
   rw [cX (by omega)]
   refine Ev.n (fun e=>?_) (fun e=>?_)
   ·refine Ev.opt (cM (by simp; omega)) ?_
    rw [aQx e] at this
    exact this
   ·rw [e] at this
    rw [show ([[]]:List (List UInt8)).filter ne=[] from rfl,List.append_nil] at this
    exact this
 refine Ev.congr (f:=fun K=>_) ?_ (fun k=>by rw [bR])
 exact loop l.length 0 (by omega)
end Go.Proofs.YtjhfgiieicloeaaGreatDoor

/- The program's writers of modules, signatures, specifications, declarations, form by form. -/
namespace Go.Proofs.YtjhfgiieicloeaaGreatDoor
open Go Go.Am Go.Sx
abbrev CN:=List UInt8×Tr×List UInt8
def cnT (a:CN):Tr:=.node 8 0 a.1 [] [a.2.1]
def cnX (a:CN):List UInt8:=jf [a.1,[111,102],a.2.2]
abbrev bJW:List UInt8:=[32,124,32]
def aVo (L:List CN):List UInt8:=Lib.join (L.map cnX) bJW
def bFV (a:CN):Prop:=a.1.length≤1000∧a.2.2.length≤109951162777∧Ev (fun K=>jG K a.2.1) a.2.2
abbrev TX:=Tr×List UInt8
section
variable {n:Int} {nm mk:List UInt8} {x y:Tr} {vx vy:List UInt8}
theorem aZc {L:List CN} (hL:∀ a∈L,bFV a) (hn:L.length≤1048576) (hj:(aVo L).length≤1099511627776):Ev (fun K=>aCD K (L.map cnT)) (aVo L):=by
 have loop:∀ (m i:Nat),L.length=i+m→Ev (fun K=>oW K ((L.map cnX).take i) (L.map cnT) (i:Int)) (aVo L):=by
  intro m
  induction m with
  | zero =>
   intro i hi
   rw [List.take_of_length_le (by simp; omega)]
   refine Ev.step (fun k=>by rw [oW]) ?_
   refine Ev.dF (by simp; omega) (Ev.ret ⟨0,fun K _=>?_⟩)
   show (if _ then _ else _)=_
   have:(Lib.join (L.map cnX) [32,124,32]).length≤1099511627776:=hj
   rw [if_pos ⟨by omega,by simp; omega⟩]
   rfl
  | succ m ih =>
   intro i hi
   have hlt:i<L.length:=by omega
   have hx:i<(L.map cnX).length:=by simp; omega
   have hr:i<(L.map cnT).length:=by simp; omega
   obtain ⟨o1,o2,o3⟩:=hL _ (List.getElem_mem hlt)
   have hg:aU (L.map cnT) (i:Int)=some (cnT L[i]):=by rw [dX hr,List.getElem_map]
   refine Ev.step (fun k=>by rw [oW]) ?_
   refine Ev.dT (by simp; omega) (Ev.opt hg ?_)
   refine Ev.opt (a:=L[i].2.1) rfl ?_
   refine Ev.bind o3 ?_
   refine Ev.bind (gV _ (by simp only [lw,List.length_cons,List.length_nil]; omega)) ?_
   refine Ev.opt (cM (by simp; omega)) ?_
   rw [cX (by omega)]
   have:=ih (i+1) (by omega)
   rw [oZ hx,List.getElem_map] at this
   exact this
 refine Ev.congr (f:=fun K=>_) ?_ (fun k=>by rw [aCD])
 have:=loop L.length 0 (by omega)
 simpa using this
theorem bDA {L:List TX} (hL:∀ a∈L,Ev (fun K=>eD K a.1) a.2) (hj:lw (L.map Prod.snd)≤1099511627776):Ev (fun K=>aCy K (L.map Prod.fst)) (jf (L.map Prod.snd)):=by
 have hn:=aW7 (L.map Prod.snd)
 rw [List.length_map] at hn
 have loop:∀ (m i:Nat),L.length=i+m→Ev (fun K=>oP K ((L.map Prod.snd).take i) (L.map Prod.fst) (i:Int)) (jf (L.map Prod.snd)):=by
  intro m
  induction m with
  | zero =>
   intro i hi
   rw [List.take_of_length_le (by simp; omega)]
   refine Ev.step (fun k=>by rw [oP]) ?_
   exact Ev.dF (by simp; omega) (Ev.ret (gV _ hj))
  | succ m ih =>
   intro i hi
   have hlt:i<L.length:=by omega
   have hx:i<(L.map Prod.snd).length:=by simp; omega
   have hr:i<(L.map Prod.fst).length:=by simp; omega
   have hg:aU (L.map Prod.fst) (i:Int)=some L[i].1:=by rw [dX hr,List.getElem_map]
   refine Ev.step (fun k=>by rw [oP]) ?_
   refine Ev.dT (by simp; omega) (Ev.opt hg ?_)
   refine Ev.bind (hL _ (List.getElem_mem hlt)) ?_
   refine Ev.opt (cM (by simp; omega)) ?_
   rw [cX (by omega)]
   have:=ih (i+1) (by omega)
   rw [oZ hx,List.getElem_map] at this
   exact this
 refine Ev.step (fun k=>by rw [aCy]) ?_
 have:=loop L.length 0 (by omega)
 simpa using this
theorem bDF {L:List TX} (hL:∀ a∈L,Ev (fun K=>cG K a.1) a.2) (hj:lw (L.map Prod.snd)≤1099511627776):Ev (fun K=>xH K (L.map Prod.fst)) (jf (L.map Prod.snd)):=by
 have hn:=aW7 (L.map Prod.snd)
 rw [List.length_map] at hn
 have loop:∀ (m i:Nat),L.length=i+m→Ev (fun K=>kY K ((L.map Prod.snd).take i) (L.map Prod.fst) (i:Int)) (jf (L.map Prod.snd)):=by
  intro m
  induction m with
  | zero =>
   intro i hi
   rw [List.take_of_length_le (by simp; omega)]
   refine Ev.step (fun k=>by rw [kY]) ?_
   exact Ev.dF (by simp; omega) (Ev.ret (gV _ hj))
  | succ m ih =>
   intro i hi
   have hlt:i<L.length:=by omega
   have hx:i<(L.map Prod.snd).length:=by simp; omega
   have hr:i<(L.map Prod.fst).length:=by simp; omega
   have hg:aU (L.map Prod.fst) (i:Int)=some L[i].1:=by rw [dX hr,List.getElem_map]
   refine Ev.step (fun k=>by rw [kY]) ?_
   refine Ev.dT (by simp; omega) (Ev.opt hg ?_)
   refine Ev.bind (hL _ (List.getElem_mem hlt)) ?_
   refine Ev.opt (cM (by simp; omega)) ?_
   rw [cX (by omega)]
   have:=ih (i+1) (by omega)
   rw [oZ hx,List.getElem_map] at this
   exact this
 refine Ev.step (fun k=>by rw [xH]) ?_
 have:=loop L.length 0 (by omega)
 simpa using this
/- forms -/
theorem bIm (lnm:nm.length≤1000) (hx:Ev (fun K=>jG K x) vx) (lx:vx.length≤109951162777):Ev (fun K=>eD K (.node 60 n nm mk [x])) (jf [[118,97,108],nm,[58],vx]):=by
 refine Ev.step (fun k=>by rw [eD]) ?_
 repeat' first | refine Ev.dT rfl ?_ | refine Ev.dF (by first | decide | simp) ?_
 refine Ev.opt (a:=x) rfl ?_
 refine Ev.bind hx ?_
 exact Ev.ret (gV _ (by simp only [lw,List.length_cons,List.length_nil]; omega))
theorem bHM (lnm:nm.length≤1000) (hx:Ev (fun K=>jG K x) vx) (lx:vx.length≤109951162777):Ev (fun K=>eD K (.node 61 n nm mk [x])) (jf [[116,121,112,101],nm,[61],vx]):=by
 refine Ev.step (fun k=>by rw [eD]) ?_
 repeat' first | refine Ev.dT rfl ?_ | refine Ev.dF (by first | decide | simp) ?_
 refine Ev.opt (a:=x) rfl ?_
 refine Ev.bind hx ?_
 exact Ev.ret (gV _ (by simp only [lw,List.length_cons,List.length_nil]; omega))
theorem bHt (lnm:nm.length≤1000):Ev (fun K=>eD K (.node 61 n nm mk [])) (jf [[116,121,112,101],nm]):=by
 refine Ev.step (fun k=>by rw [eD]) ?_
 repeat' first | refine Ev.dT rfl ?_ | refine Ev.dF (by first | decide | simp) ?_
 exact Ev.ret (gV _ (by simp only [lw,List.length_cons,List.length_nil]; omega))
theorem bHx (lnm:nm.length≤1000) (hx:Ev (fun K=>eS K x) vx) (lx:vx.length≤109951162777):Ev (fun K=>eD K (.node 63 n nm mk [x])) (jf [[115,116,114,117,99,116,117,114,101],nm,[58],vx]):=by
 refine Ev.step (fun k=>by rw [eD]) ?_
 repeat' first | refine Ev.dT rfl ?_ | refine Ev.dF (by first | decide | simp) ?_
 refine Ev.opt (a:=x) rfl ?_
 refine Ev.bind hx ?_
 exact Ev.ret (gV _ (by simp only [lw,List.length_cons,List.length_nil]; omega))
theorem bIh (hx:Ev (fun K=>eS K x) vx) (lx:vx.length≤109951162777):Ev (fun K=>eD K (.node 64 n nm mk [x])) (jf [[105,110,99,108,117,100,101],vx]):=by
 refine Ev.step (fun k=>by rw [eD]) ?_
 repeat' first | refine Ev.dT rfl ?_ | refine Ev.dF (by first | decide | simp) ?_
 refine Ev.opt (a:=x) rfl ?_
 refine Ev.bind hx ?_
 exact Ev.ret (gV _ (by simp only [lw,List.length_cons,List.length_nil]; omega))
theorem bHJ (lmk:mk.length≤1000) (lnm:nm.length≤1000):Ev (fun K=>eD K (.node 65 n nm mk [])) (jf [[115,104,97,114,105,110,103,32,116,121,112,101],nm,[61],mk]):=by
 refine Ev.step (fun k=>by rw [eD]) ?_
 repeat' first | refine Ev.dT rfl ?_ | refine Ev.dF (by first | decide | simp) ?_
 exact Ev.ret (gV _ (by simp only [lw,List.length_cons,List.length_nil]; omega))
theorem bHz (lnm:nm.length≤1000) (hx:Ev (fun K=>jG K x) vx) (lx:vx.length≤109951162777) (hy:Ev (fun K=>uF K y) vy) (ly:vy.length≤109951162777):Ev (fun K=>cG K (.node 70 n nm mk [x,y])) (jf [[118,97,108],nm,[58],vx,[61],vy]):=by
 refine Ev.step (fun k=>by rw [cG]) ?_
 repeat' first | refine Ev.dT rfl ?_ | refine Ev.dF (by first | decide | simp) ?_
 refine Ev.opt (a:=x) rfl ?_
 refine Ev.opt (a:=y) rfl ?_
 refine Ev.bind hx ?_
 refine Ev.bind hy ?_
 exact Ev.ret (gV _ (by simp only [lw,List.length_cons,List.length_nil]; omega))
theorem bG4 (lnm:nm.length≤1000) (hx:Ev (fun K=>uF K x) vx) (lx:vx.length≤109951162777):Ev (fun K=>cG K (.node 70 n nm mk [x])) (jf [[118,97,108],nm,[61],vx]):=by
 refine Ev.step (fun k=>by rw [cG]) ?_
 repeat' first | refine Ev.dT rfl ?_ | refine Ev.dF (by first | decide | simp) ?_
 refine Ev.opt (a:=x) rfl ?_
 refine Ev.bind hx ?_
 exact Ev.ret (gV _ (by simp only [lw,List.length_cons,List.length_nil]; omega))
theorem bIy (lnm:nm.length≤1000) (hx:Ev (fun K=>jG K x) vx) (lx:vx.length≤109951162777):Ev (fun K=>cG K (.node 71 n nm mk [x])) (jf [[116,121,112,101],nm,[61],vx]):=by
 refine Ev.step (fun k=>by rw [cG]) ?_
 repeat' first | refine Ev.dT rfl ?_ | refine Ev.dF (by first | decide | simp) ?_
 refine Ev.opt (a:=x) rfl ?_
 refine Ev.bind hx ?_
 exact Ev.ret (gV _ (by simp only [lw,List.length_cons,List.length_nil]; omega))
theorem bGA (lnm:nm.length≤1000) (hx:Ev (fun K=>fV K x) vx) (lx:vx.length≤109951162777):Ev (fun K=>cG K (.node 73 n nm mk [x])) (jf [[115,116,114,117,99,116,117,114,101],nm,[61],vx]):=by
 refine Ev.step (fun k=>by rw [cG]) ?_
 repeat' first | refine Ev.dT rfl ?_ | refine Ev.dF (by first | decide | simp) ?_
 refine Ev.opt (a:=x) rfl ?_
 refine Ev.bind hx ?_
 exact Ev.ret (gV _ (by simp only [lw,List.length_cons,List.length_nil]; omega))
theorem bHU (lnm:nm.length≤1000) (hx:Ev (fun K=>eS K x) vx) (lx:vx.length≤109951162777):Ev (fun K=>cG K (.node 74 n nm mk [x])) (jf [[115,105,103,110,97,116,117,114,101],nm,[61],vx]):=by
 refine Ev.step (fun k=>by rw [cG]) ?_
 repeat' first | refine Ev.dT rfl ?_ | refine Ev.dF (by first | decide | simp) ?_
 refine Ev.opt (a:=x) rfl ?_
 refine Ev.bind hx ?_
 exact Ev.ret (gV _ (by simp only [lw,List.length_cons,List.length_nil]; omega))
theorem bGS (lmk:mk.length≤1000) (lnm:nm.length≤1000) (hx:Ev (fun K=>eS K x) vx) (lx:vx.length≤109951162777) (hy:Ev (fun K=>fV K y) vy) (ly:vy.length≤109951162777):Ev (fun K=>cG K (.node 75 n nm mk [x,y])) (jf [[102,117,110,99,116,111,114],nm,[40],mk,[58],vx,[41],[61],vy]):=by
 refine Ev.step (fun k=>by rw [cG]) ?_
 repeat' first | refine Ev.dT rfl ?_ | refine Ev.dF (by first | decide | simp) ?_
 refine Ev.opt (a:=x) rfl ?_
 refine Ev.opt (a:=y) rfl ?_
 refine Ev.bind hx ?_
 refine Ev.bind hy ?_
 exact Ev.ret (gV _ (by simp only [lw,List.length_cons,List.length_nil]; omega))
theorem bGT (lnm:nm.length≤1000):Ev (fun K=>cG K (.node 76 n nm mk [])) (jf [[111,112,101,110],nm]):=by
 refine Ev.step (fun k=>by rw [cG]) ?_
 repeat' first | refine Ev.dT rfl ?_ | refine Ev.dF (by first | decide | simp) ?_
 exact Ev.ret (gV _ (by simp only [lw,List.length_cons,List.length_nil]; omega))
theorem bIq (lnm:nm.length≤1000):Ev (fun K=>cG K (.node 77 n nm mk [])) (jf [[105,110,99,108,117,100,101],nm]):=by
 refine Ev.step (fun k=>by rw [cG]) ?_
 repeat' first | refine Ev.dT rfl ?_ | refine Ev.dF (by first | decide | simp) ?_
 exact Ev.ret (gV _ (by simp only [lw,List.length_cons,List.length_nil]; omega))
theorem bHB (lnm:nm.length≤1000) (hx:Ev (fun K=>eS K x) vx) (lx:vx.length≤109951162777) (hy:Ev (fun K=>jG K y) vy) (ly:vy.length≤109951162777):Ev (fun K=>eS K (.node 52 n nm mk [x,y])) (jf [vx,[119,104,101,114,101,32,116,121,112,101],nm,[61],vy]):=by
 refine Ev.step (fun k=>by rw [eS]) ?_
 repeat' first | refine Ev.dT rfl ?_ | refine Ev.dF (by first | decide | simp) ?_
 refine Ev.opt (a:=x) rfl ?_
 refine Ev.opt (a:=y) rfl ?_
 refine Ev.bind hx ?_
 refine Ev.bind hy ?_
 exact Ev.ret (gV _ (by simp only [lw,List.length_cons,List.length_nil]; omega))
theorem bG2 (lnm:nm.length≤1000) (hx:Ev (fun K=>fV K x) vx) (lx:vx.length≤109951162777):Ev (fun K=>fV K (.node 42 n nm mk [x])) (jf [nm,[40],vx,[41]]):=by
 refine Ev.step (fun k=>by rw [fV]) ?_
 repeat' first | refine Ev.dT rfl ?_ | refine Ev.dF (by first | decide | simp) ?_
 refine Ev.opt (a:=x) rfl ?_
 refine Ev.bind hx ?_
 exact Ev.ret (gV _ (by simp only [lw,List.length_cons,List.length_nil]; omega))
theorem bGW {L:List CN} (lnm:nm.length≤1000) (hL:∀ a∈L,bFV a) (hn:L.length≤1048576) (hj:(aVo L).length≤109951162777):Ev (fun K=>eD K (.node 62 n nm mk (L.map cnT))) (jf [[100,97,116,97,116,121,112,101],nm,[61],aVo L]):=by
 refine Ev.step (fun k=>by rw [eD]) ?_
 repeat' first | refine Ev.dT rfl ?_ | refine Ev.dF (by decide) ?_
 refine Ev.bind (aZc hL hn (by omega)) ?_
 exact Ev.ret (gV _ (by simp only [lw,List.length_cons,List.length_nil]; omega))
theorem bG1 {L:List CN} (lnm:nm.length≤1000) (hL:∀ a∈L,bFV a) (hn:L.length≤1048576) (hj:(aVo L).length≤109951162777):Ev (fun K=>cG K (.node 72 n nm mk (L.map cnT))) (jf [[100,97,116,97,116,121,112,101],nm,[61],aVo L]):=by
 refine Ev.step (fun k=>by rw [cG]) ?_
 repeat' first | refine Ev.dT rfl ?_ | refine Ev.dF (by decide) ?_
 refine Ev.bind (aZc hL hn (by omega)) ?_
 exact Ev.ret (gV _ (by simp only [lw,List.length_cons,List.length_nil]; omega))
theorem bFs:Ev (fun K=>fV K (.node 41 n nm mk [])) nm:=by
 refine Ev.step (fun k=>by rw [fV]) ?_
 exact Ev.dT rfl Ev.pure
theorem bGH:Ev (fun K=>eS K (.node 51 n nm mk [])) nm:=by
 refine Ev.step (fun k=>by rw [eS]) ?_
 exact Ev.dT rfl Ev.pure
def sgn (n:Int):List UInt8:=if n=1 then [58,62] else [58]
theorem bIJ (hx:Ev (fun K=>fV K x) vx) (lx:vx.length≤109951162777) (hy:Ev (fun K=>eS K y) vy) (ly:vy.length≤109951162777):Ev (fun K=>fV K (.node 43 n nm mk [x,y])) (jf [vx,sgn n,vy]):=by
 refine Ev.step (fun k=>by rw [fV]) ?_
 have core:∀ s:List UInt8,s.length≤2→Ev (fun K=>uA K (.node 43 n nm mk [x,y]) s) (jf [vx,s,vy]):=fun s hs=>by
  refine Ev.step (fun k=>by rw [uA]) ?_
  refine Ev.opt (a:=x) rfl ?_
  refine Ev.opt (a:=y) rfl ?_
  refine Ev.bind hx (Ev.bind hy ?_)
  exact Ev.ret (gV _ (by simp only [lw]; omega))
 refine Ev.dF (by decide) (Ev.dF (by decide) (Ev.dT rfl ?_))
 unfold sgn
 refine Ev.d (fun h=>?_) (fun h=>?_)
 ·rw [if_pos h]; exact core _ (by decide)
 ·rw [if_neg h]; exact core _ (by decide)
theorem bFf {L:List TX} (hL:∀ a∈L,Ev (fun K=>cG K a.1) a.2) (hj:lw (L.map Prod.snd)≤109951162777):Ev (fun K=>fV K (.node 40 n nm mk (L.map Prod.fst))) (jf [[115,116,114,117,99,116],jf (L.map Prod.snd),[101,110,100]]):=by
 have:=aVT (L.map Prod.snd)
 refine Ev.step (fun k=>by rw [fV]) ?_
 refine Ev.dF (by decide) (Ev.dF (by decide) (Ev.dF (by decide) (Ev.bind (bDF hL (by omega)) ?_)))
 exact Ev.ret (gV _ (by simp only [lw,List.length_cons,List.length_nil]; omega))
theorem bHe {L:List TX} (hL:∀ a∈L,Ev (fun K=>eD K a.1) a.2) (hj:lw (L.map Prod.snd)≤109951162777):Ev (fun K=>eS K (.node 50 n nm mk (L.map Prod.fst))) (jf [[115,105,103],jf (L.map Prod.snd),[101,110,100]]):=by
 have:=aVT (L.map Prod.snd)
 refine Ev.step (fun k=>by rw [eS]) ?_
 refine Ev.dF (by decide) (Ev.dF (by decide) (Ev.bind (bDA hL (by omega)) ?_))
 exact Ev.ret (gV _ (by simp only [lw,List.length_cons,List.length_nil]; omega))
end
end Go.Proofs.YtjhfgiieicloeaaGreatDoor

/- The program's writer of programs. -/
namespace Go.Proofs.YtjhfgiieicloeaaGreatDoor
open Go Go.Am Go.Sx
end Go.Proofs.YtjhfgiieicloeaaGreatDoor

/- The forms of modules, signatures, specifications, declarations. Printed by gen9/k2.py. -/
namespace Go.Proofs.YtjhfgiieicloeaaGreatDoor
open Go Go.Am Go.Sx
theorem dD {n:Int} {nm mk:List UInt8} {ks:List Tr} {r:Row} (h:eF isT n nm mk ks r=true):aMY nm r.2.2.1=true∧aMY mk r.2.2.2.1=true∧(r.2.2.2.2.1≤n∧n≤r.2.2.2.2.2.1)∧dH isT r.2.2.2.2.2.2 ks=true:=iF h
theorem aNl {a:UInt8} {c:Int} {l:List Tr} (h1:a≠42) (h2:a≠67) (h3:a≠65) (hc:catS a=c) (h:dH isT [a] l=true):∃ x,l=[x]∧isT c x=true:=by
 rw [aBd h1 h2 h3 hc] at h
 exact aSQ h
theorem bBt {a b:UInt8} {c d:Int} {l:List Tr} (h1:a≠42) (h2:a≠67) (h3:a≠65) (g1:b≠42) (g2:b≠67) (g3:b≠65) (hc:catS a=c) (hd:catS b=d) (h:dH isT [a,b] l=true):∃ x y,l=[x,y]∧isT c x=true∧isT d y=true:=by
 rw [xG h1 h2 h3 g1 g2 g3 hc hd] at h
 exact aLd h
theorem bGk {l:List Tr} (h:dH isT [67] l=true):rM (isT 8) [] l=true∧l≠[]:=by
 rw [k_C,Bool.and_eq_true] at h
 refine ⟨h.1,fun e=>?_⟩
 rw [e] at h; simp at h
theorem bC1 {y:Tr} (h:innerS y=true):isT 6 y=true∧kindOf y≠74∧kindOf y≠75:=by
 unfold innerS aSk at h
 rw [Bool.and_eq_true] at h
 refine ⟨h.1,fun e=>?_,fun e=>?_⟩
 ·have:=h.2; rw [e] at this; cases this
 ·have:=h.2; rw [e] at this; cases this
inductive Md:Tr→Prop
 | strc (ks:List Tr) (hk:∀ y∈ks,isT 6 y=true∧kindOf y≠74∧kindOf y≠75):Md (.node 40 0 [] [] ks)
 | path (s:List UInt8) (h:lgS s=true):Md (.node 41 0 s [] [])
 | app (s:List UInt8) (a:Tr) (h:mG s=true) (ha:isT 3 a=true):Md (.node 42 0 s [] [a])
 | sl (n:Int) (a:Tr) (b:Tr) (hn:n=0∨n=1) (ha:isT 3 a=true) (hb:isT 4 b=true):Md (.node 43 n [] [] [a,b])
theorem bIA {t:Tr} (h:isT 3 t=true):Md t:=by
 obtain ⟨k,n,nm,mk,ks,rfl⟩:=aEg h
 have hk:k∈eZ 3:=by
  by_cases e:k∈eZ 3
  ·exact e
  ·rw [nZ e] at h; cases h
 have hk:k=40∨k=41∨k=42∨k=43:=by
  have e:eZ 3=[40,41,42,43]:=rfl
  rw [e] at hk
  simp only [List.mem_cons,List.not_mem_nil,or_false] at hk
  omega
 rcases hk with rfl | rfl | rfl | rfl
 ·rw [aR (r:=(3,40,[],[],0,0,[42,105])) rfl] at h
  obtain ⟨h1,h2,h3,h4⟩:=dD h
  obtain rfl:=dP h1
  obtain rfl:=dP h2
  have h3:0≤n∧n≤0:=h3
  obtain rfl:n=0:=by omega
  rw [k_i] at h4
  exact .strc ks (fun y hy=>bC1 (List.all_eq_true.1 h4 y hy))
 ·rw [aR (r:=(3,41,[108],[],0,0,[])) rfl] at h
  obtain ⟨h1,h2,h3,h4⟩:=dD h
  obtain rfl:=dP h2
  have h3:0≤n∧n≤0:=h3
  obtain rfl:n=0:=by omega
  obtain rfl:=aNk h4
  exact .path nm h1
 ·rw [aR (r:=(3,42,[110],[],0,0,[109])) rfl] at h
  obtain ⟨h1,h2,h3,h4⟩:=dD h
  obtain rfl:=dP h2
  have h3:0≤n∧n≤0:=h3
  obtain rfl:n=0:=by omega
  obtain ⟨x,rfl,hx⟩:=aNl (c:=3) (by decide) (by decide) (by decide) rfl h4
  exact .app nm x h1 hx
 ·rw [aR (r:=(3,43,[],[],0,1,[109,115])) rfl] at h
  obtain ⟨h1,h2,h3,h4⟩:=dD h
  obtain rfl:=dP h1
  obtain rfl:=dP h2
  have h3:0≤n∧n≤1:=h3
  obtain ⟨x,y,rfl,hx,hy⟩:=bBt (c:=3) (d:=4) (by decide) (by decide) (by decide) (by decide) (by decide) (by decide) rfl rfl h4
  exact .sl n x y (by omega) hx hy
inductive Sg:Tr→Prop
 | bod (ks:List Tr) (hk:∀ y∈ks,isT 5 y=true):Sg (.node 50 0 [] [] ks)
 | nam (s:List UInt8) (h:mG s=true):Sg (.node 51 0 s [] [])
 | whr (s:List UInt8) (a:Tr) (b:Tr) (h:lgS s=true) (ha:isT 4 a=true) (hb:isT 1 b=true):Sg (.node 52 0 s [] [a,b])
theorem bJi {t:Tr} (h:isT 4 t=true):Sg t:=by
 obtain ⟨k,n,nm,mk,ks,rfl⟩:=aEg h
 have hk:k∈eZ 4:=by
  by_cases e:k∈eZ 4
  ·exact e
  ·rw [nZ e] at h; cases h
 have hk:k=50∨k=51∨k=52:=by
  have e:eZ 4=[50,51,52]:=rfl
  rw [e] at hk
  simp only [List.mem_cons,List.not_mem_nil,or_false] at hk
  omega
 rcases hk with rfl | rfl | rfl
 ·rw [aR (r:=(4,50,[],[],0,0,[42,112])) rfl] at h
  obtain ⟨h1,h2,h3,h4⟩:=dD h
  obtain rfl:=dP h1
  obtain rfl:=dP h2
  have h3:0≤n∧n≤0:=h3
  obtain rfl:n=0:=by omega
  rw [k_p] at h4
  exact .bod ks (fun y hy=>List.all_eq_true.1 h4 y hy)
 ·rw [aR (r:=(4,51,[110],[],0,0,[])) rfl] at h
  obtain ⟨h1,h2,h3,h4⟩:=dD h
  obtain rfl:=dP h2
  have h3:0≤n∧n≤0:=h3
  obtain rfl:n=0:=by omega
  obtain rfl:=aNk h4
  exact .nam nm h1
 ·rw [aR (r:=(4,52,[108],[],0,0,[115,116])) rfl] at h
  obtain ⟨h1,h2,h3,h4⟩:=dD h
  obtain rfl:=dP h2
  have h3:0≤n∧n≤0:=h3
  obtain rfl:n=0:=by omega
  obtain ⟨x,y,rfl,hx,hy⟩:=bBt (c:=4) (d:=1) (by decide) (by decide) (by decide) (by decide) (by decide) (by decide) rfl rfl h4
  exact .whr nm x y h1 hx hy
inductive Sp:Tr→Prop
 | val (s:List UInt8) (a:Tr) (h:mG s=true) (ha:isT 1 a=true):Sp (.node 60 0 s [] [a])
 | ty1 (s:List UInt8) (a:Tr) (h:mG s=true) (ha:isT 1 a=true):Sp (.node 61 0 s [] [a])
 | ty0 (s:List UInt8) (h:mG s=true):Sp (.node 61 0 s [] [])
 | dat (s:List UInt8) (ks:List Tr) (h:mG s=true) (hk:rM (isT 8) [] ks=true) (h0:ks≠[]):Sp (.node 62 0 s [] ks)
 | str (s:List UInt8) (a:Tr) (h:mG s=true) (ha:isT 4 a=true):Sp (.node 63 0 s [] [a])
 | inc (a:Tr) (ha:isT 4 a=true):Sp (.node 64 0 [] [] [a])
 | shr (s:List UInt8) (x:List UInt8) (h:lgS s=true) (hx:lgS x=true):Sp (.node 65 0 s x [])
theorem bJo {t:Tr} (h:isT 5 t=true):Sp t:=by
 obtain ⟨k,n,nm,mk,ks,rfl⟩:=aEg h
 have hk:k∈eZ 5:=by
  by_cases e:k∈eZ 5
  ·exact e
  ·rw [nZ e] at h; cases h
 have hk:k=60∨k=61∨k=62∨k=63∨k=64∨k=65:=by
  have e:eZ 5=[60,61,61,62,63,64,65]:=rfl
  rw [e] at hk
  simp only [List.mem_cons,List.not_mem_nil,or_false] at hk
  omega
 rcases hk with rfl | rfl | rfl | rfl | rfl | rfl
 ·rw [aR (r:=(5,60,[110],[],0,0,[116])) rfl] at h
  obtain ⟨h1,h2,h3,h4⟩:=dD h
  obtain rfl:=dP h2
  have h3:0≤n∧n≤0:=h3
  obtain rfl:n=0:=by omega
  obtain ⟨x,rfl,hx⟩:=aNl (c:=1) (by decide) (by decide) (by decide) rfl h4
  exact .val nm x h1 hx
 ·rw [aKh (r:=(5,61,[110],[],0,0,[116])) (r':=(5,61,[110],[],0,0,[])) rfl,Bool.or_eq_true] at h
  rcases h with h | h
  ·obtain ⟨h1,h2,h3,h4⟩:=dD h
   obtain rfl:=dP h2
   have h3:0≤n∧n≤0:=h3
   obtain rfl:n=0:=by omega
   obtain ⟨x,rfl,hx⟩:=aNl (c:=1) (by decide) (by decide) (by decide) rfl h4
   exact .ty1 nm x h1 hx
  ·obtain ⟨h1,h2,h3,h4⟩:=dD h
   obtain rfl:=dP h2
   have h3:0≤n∧n≤0:=h3
   obtain rfl:n=0:=by omega
   obtain rfl:=aNk h4
   exact .ty0 nm h1
 ·rw [aR (r:=(5,62,[110],[],0,0,[67])) rfl] at h
  obtain ⟨h1,h2,h3,h4⟩:=dD h
  obtain rfl:=dP h2
  have h3:0≤n∧n≤0:=h3
  obtain rfl:n=0:=by omega
  obtain ⟨g1,g2⟩:=bGk h4
  exact .dat nm ks h1 g1 g2
 ·rw [aR (r:=(5,63,[110],[],0,0,[115])) rfl] at h
  obtain ⟨h1,h2,h3,h4⟩:=dD h
  obtain rfl:=dP h2
  have h3:0≤n∧n≤0:=h3
  obtain rfl:n=0:=by omega
  obtain ⟨x,rfl,hx⟩:=aNl (c:=4) (by decide) (by decide) (by decide) rfl h4
  exact .str nm x h1 hx
 ·rw [aR (r:=(5,64,[],[],0,0,[115])) rfl] at h
  obtain ⟨h1,h2,h3,h4⟩:=dD h
  obtain rfl:=dP h1
  obtain rfl:=dP h2
  have h3:0≤n∧n≤0:=h3
  obtain rfl:n=0:=by omega
  obtain ⟨x,rfl,hx⟩:=aNl (c:=4) (by decide) (by decide) (by decide) rfl h4
  exact .inc x hx
 ·rw [aR (r:=(5,65,[108],[108],0,0,[])) rfl] at h
  obtain ⟨h1,h2,h3,h4⟩:=dD h
  have h3:0≤n∧n≤0:=h3
  obtain rfl:n=0:=by omega
  obtain rfl:=aNk h4
  exact .shr nm mk h1 h2
inductive Dc:Tr→Prop
 | va1 (s:List UInt8) (a:Tr) (h:mG s=true) (ha:isT 2 a=true):Dc (.node 70 0 s [] [a])
 | va2 (s:List UInt8) (a:Tr) (b:Tr) (h:mG s=true) (ha:isT 1 a=true) (hb:isT 2 b=true):Dc (.node 70 0 s [] [a,b])
 | ty (s:List UInt8) (a:Tr) (h:mG s=true) (ha:isT 1 a=true):Dc (.node 71 0 s [] [a])
 | dat (s:List UInt8) (ks:List Tr) (h:mG s=true) (hk:rM (isT 8) [] ks=true) (h0:ks≠[]):Dc (.node 72 0 s [] ks)
 | str (s:List UInt8) (a:Tr) (h:mG s=true) (ha:isT 3 a=true):Dc (.node 73 0 s [] [a])
 | sig (s:List UInt8) (a:Tr) (h:mG s=true) (ha:isT 4 a=true):Dc (.node 74 0 s [] [a])
 | fun_ (s:List UInt8) (x:List UInt8) (a:Tr) (b:Tr) (h:mG s=true) (hx:mG x=true) (ha:isT 4 a=true) (hb:isT 3 b=true):Dc (.node 75 0 s x [a,b])
 | opn (s:List UInt8) (h:lgS s=true):Dc (.node 76 0 s [] [])
 | inc (s:List UInt8) (h:lgS s=true):Dc (.node 77 0 s [] [])
theorem bI3 {t:Tr} (h:isT 6 t=true):Dc t:=by
 obtain ⟨k,n,nm,mk,ks,rfl⟩:=aEg h
 have hk:k∈eZ 6:=by
  by_cases e:k∈eZ 6
  ·exact e
  ·rw [nZ e] at h; cases h
 have hk:k=70∨k=71∨k=72∨k=73∨k=74∨k=75∨k=76∨k=77:=by
  have e:eZ 6=[70,70,71,72,73,74,75,76,77]:=rfl
  rw [e] at hk
  simp only [List.mem_cons,List.not_mem_nil,or_false] at hk
  omega
 rcases hk with rfl | rfl | rfl | rfl | rfl | rfl | rfl | rfl
 ·rw [aKh (r:=(6,70,[110],[],0,0,[101])) (r':=(6,70,[110],[],0,0,[116,101])) rfl,Bool.or_eq_true] at h
  rcases h with h | h
  ·obtain ⟨h1,h2,h3,h4⟩:=dD h
   obtain rfl:=dP h2
   have h3:0≤n∧n≤0:=h3
   obtain rfl:n=0:=by omega
   obtain ⟨x,rfl,hx⟩:=aNl (c:=2) (by decide) (by decide) (by decide) rfl h4
   exact .va1 nm x h1 hx
  ·obtain ⟨h1,h2,h3,h4⟩:=dD h
   obtain rfl:=dP h2
   have h3:0≤n∧n≤0:=h3
   obtain rfl:n=0:=by omega
   obtain ⟨x,y,rfl,hx,hy⟩:=bBt (c:=1) (d:=2) (by decide) (by decide) (by decide) (by decide) (by decide) (by decide) rfl rfl h4
   exact .va2 nm x y h1 hx hy
 ·rw [aR (r:=(6,71,[110],[],0,0,[116])) rfl] at h
  obtain ⟨h1,h2,h3,h4⟩:=dD h
  obtain rfl:=dP h2
  have h3:0≤n∧n≤0:=h3
  obtain rfl:n=0:=by omega
  obtain ⟨x,rfl,hx⟩:=aNl (c:=1) (by decide) (by decide) (by decide) rfl h4
  exact .ty nm x h1 hx
 ·rw [aR (r:=(6,72,[110],[],0,0,[67])) rfl] at h
  obtain ⟨h1,h2,h3,h4⟩:=dD h
  obtain rfl:=dP h2
  have h3:0≤n∧n≤0:=h3
  obtain rfl:n=0:=by omega
  obtain ⟨g1,g2⟩:=bGk h4
  exact .dat nm ks h1 g1 g2
 ·rw [aR (r:=(6,73,[110],[],0,0,[109])) rfl] at h
  obtain ⟨h1,h2,h3,h4⟩:=dD h
  obtain rfl:=dP h2
  have h3:0≤n∧n≤0:=h3
  obtain rfl:n=0:=by omega
  obtain ⟨x,rfl,hx⟩:=aNl (c:=3) (by decide) (by decide) (by decide) rfl h4
  exact .str nm x h1 hx
 ·rw [aR (r:=(6,74,[110],[],0,0,[115])) rfl] at h
  obtain ⟨h1,h2,h3,h4⟩:=dD h
  obtain rfl:=dP h2
  have h3:0≤n∧n≤0:=h3
  obtain rfl:n=0:=by omega
  obtain ⟨x,rfl,hx⟩:=aNl (c:=4) (by decide) (by decide) (by decide) rfl h4
  exact .sig nm x h1 hx
 ·rw [aR (r:=(6,75,[110],[110],0,0,[115,109])) rfl] at h
  obtain ⟨h1,h2,h3,h4⟩:=dD h
  have h3:0≤n∧n≤0:=h3
  obtain rfl:n=0:=by omega
  obtain ⟨x,y,rfl,hx,hy⟩:=bBt (c:=4) (d:=3) (by decide) (by decide) (by decide) (by decide) (by decide) (by decide) rfl rfl h4
  exact .fun_ nm mk x y h1 h2 hx hy
 ·rw [aR (r:=(6,76,[108],[],0,0,[])) rfl] at h
  obtain ⟨h1,h2,h3,h4⟩:=dD h
  obtain rfl:=dP h2
  have h3:0≤n∧n≤0:=h3
  obtain rfl:n=0:=by omega
  obtain rfl:=aNk h4
  exact .opn nm h1
 ·rw [aR (r:=(6,77,[108],[],0,0,[])) rfl] at h
  obtain ⟨h1,h2,h3,h4⟩:=dD h
  obtain rfl:=dP h2
  have h3:0≤n∧n≤0:=h3
  obtain rfl:n=0:=by omega
  obtain rfl:=aNk h4
  exact .inc nm h1
theorem bG3 {y:Tr} (h:isT 8 y=true):∃ c t,y=.node 8 0 c [] [t]∧mG c=true∧isT 1 t=true:=by
 obtain ⟨k,n,nm,mk,ks,rfl⟩:=aEg h
 have hk:k=8:=by
  by_cases e:k∈eZ 8
  ·simpa [show eZ 8=[8] from rfl] using e
  ·rw [nZ e] at h; cases h
 subst hk
 rw [aR (r:=(8,8,[110],[],0,0,[116])) rfl] at h
 obtain ⟨h1,h2,h3,h4⟩:=iF h
 obtain rfl:=dP h2
 obtain ⟨x,rfl,hx⟩:=aNl (c:=1) (by decide) (by decide) (by decide) rfl h4
 have h3:0≤n∧n≤0:=h3
 obtain rfl:n=0:=by omega
 exact ⟨nm,x,rfl,h1,hx⟩
structure Sm (y:Tr):Prop where
 g:Good y
 w:y.w≤1048576
 s:oD y≤8192
 d:rP y≤60
theorem Sm.kid {k n:Int} {nm mk:List UInt8} {ks:List Tr} (h:Sm (.node k n nm mk ks)) {y:Tr} (hy:y∈ks):Sm y:=by
 obtain ⟨hg,hw,hs,hd⟩:=h
 cases hg with
 | mk g1 g2 g3 g4 =>
  rw [aJ] at hw
  rw [aCI] at hs
  rw [aIl] at hd
  exact ⟨g4 y hy,by have:=aBK hy; omega,by have:=aPV hy; omega,by have:=aPZ (d:=0) hy; omega⟩
end Go.Proofs.YtjhfgiieicloeaaGreatDoor

/- The cells that the laws of layer 9 look at; the checks; the example. -/
namespace Go.Proofs.YtjhfgiieicloeaaGreatDoor
open Go Go.Am Go.Sx
def aU0 (p:List Cell):List Cell:=(p.take 120).map bDk
theorem aTE {p:List Cell}:∀ (m i:Nat) (acc:List Cell),i+m=min p.length 120→acc.length=i→Ev (fun K=>mN K p (i:Int) acc) (acc++((p.take 120).drop i).map bDk):=by
 intro m
 induction m with
 | zero =>
  intro i acc hi ha
  refine Ev.step (fun k=>by rw [mN]) ?_
  have hd:(p.take 120).drop i=[]:=List.drop_of_length_le (by simp; omega)
  rw [hd]
  refine Ev.d (fun h=>?_) (fun _=>Ev.pure' (by simp))
  exact Ev.dF (by omega) (Ev.pure' (by simp))
 | succ m ihm =>
  intro i acc hi ha
  have hlt:i<p.length:=by omega
  have hlt':i<(p.take 120).length:=by simp; omega
  refine Ev.step (fun k=>by rw [mN]) ?_
  refine Ev.dT (by omega) (Ev.dT (by omega) (Ev.opt (dX hlt) ?_))
  refine Ev.opt (aXC (m:=130)) (Ev.opt (aXC (m:=130)) (Ev.opt (aXC (m:=12)) ?_))
  refine Ev.opt (cM (by simp; omega)) (Ev.opt (cM (by simp; omega)) ?_)
  rw [cX (by omega),iP hlt',List.map_cons]
  have:=ihm (i+1) (acc++[bDk p[i]]) (by omega) (by simp [ha])
  rw [List.append_assoc] at this
  simpa [bDk] using this
theorem bBM (p:List Cell):Ev (fun K=>aDp K p) (aU0 p):=by
 have:=aTE (p:=p) (min p.length 120) 0 [] (by omega) rfl
 simpa [aDp,aU0] using this
theorem bCV (p:List Cell):∀ c∈aU0 p,c.2.2.1.length≤130∧c.2.2.2.1.length≤130∧c.2.2.2.2.length≤12:=by
 intro c h
 simp only [aU0,List.mem_map] at h
 obtain ⟨x,_,rfl⟩:=h
 simp [bDk]; omega
theorem aZ3 (p:List Cell):aOO (xT (aU0 p)).1:=by
 refine ⟨Nat.le_trans (bBp _) (by decide),fun hf=>?_⟩
 rcases aRd (aU0 p) with ⟨h,_⟩ | ⟨h0,h1,h2,h3,h4,h5,h6,h7,_⟩
 ·rw [h,aLP] at hf; cases hf
 ·rw [h6]
  exact bAd h7 (fun c hc=>by have:=bCV p c hc; omega) (aU0 p).length _ (by omega) (by omega)
theorem bBU (p:List Cell):∀ c∈aU0 p,c.2.2.2.2.length≤1048576:=fun c hc=>by have:=bCV p c hc; omega
theorem aYO {c:Int} {t:Tr} (h0:chk c t=0):isT c t=true∧sM t=true∧oD t≤8192∧rP t≤60:=by
 unfold chk at h0
 by_cases h1:(aJu t).2=0
 ·rw [if_pos h1] at h0
  by_cases h2:60<rP t
  ·rw [if_pos h2] at h0; cases h0
  ·rw [if_neg h2] at h0
   have hz:oD t≤8192:=by
    unfold aJu at h1
    rw [if_pos (aQl h1)] at h1
    by_cases hz:8192<oD t
    ·rw [if_pos hz] at h1; cases h1
    ·omega
   cases hi:isT c t with
   | false=>rw [hi] at h0; cases h0
   | true=>exact ⟨rfl,aQl h1,hz,by omega⟩
 ·rw [if_neg h1] at h0; exact absurd h0 h1
theorem bES {t:Tr} (h:aOO t):Ev (fun K=>aJh K t) (chk 2 t):=Ev.congr (f:=fun _K=>_) (Ev.ret (Ev.congr (f:=fun _K=>_) (aXj (f:=fH) h fun g=>(bA6 t g).1) (fun _=>rfl))) (fun _=>rfl)
theorem bDp {t:Tr} (h:aOO t):Ev (fun K=>aLX K t) (chk 3 t):=Ev.congr (f:=fun _K=>_) (Ev.ret (Ev.congr (f:=fun _K=>_) (aXj (f:=mU) h fun g=>(bHH t g).1) (fun _=>rfl))) (fun _=>rfl)
theorem bCE {t:Tr} (h:aOO t):Ev (fun K=>aLM K t) (chk 4 t):=Ev.congr (f:=fun _K=>_) (Ev.ret (Ev.congr (f:=fun _K=>_) (aXj (f:=kC) h fun g=>(bC6 t g).1) (fun _=>rfl))) (fun _=>rfl)
theorem bHh (k:Nat):qY (k+80)=some true:=by kernel_rfl
theorem aHR:Ev (fun K=>qY K) true:=⟨80,fun K hK=>by
 have:=bHh (K - 80)
 rwa [show K - 80+80=K by omega] at this⟩
end Go.Proofs.YtjhfgiieicloeaaGreatDoor

