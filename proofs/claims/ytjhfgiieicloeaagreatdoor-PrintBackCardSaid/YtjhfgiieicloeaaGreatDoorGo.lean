/- Joined texts: M5w, M7. -/
import Derived.Test.YtjhfgiieicloeaaGreatDoorGf
import Derived.Test.YtjhfgiieicloeaaGreatDoorGp
import Derived.Test.YtjhfgiieicloeaaGreatDoorGn
import Derived.Test.YtjhfgiieicloeaaGreatDoorGq
import Derived.Test.YtjhfgiieicloeaaGreatDoorGl
/- The document's example of layer 8, at the program. -/
namespace Go.Proofs.YtjhfgiieicloeaaGreatDoor
open Go Go.Am Go.Sx
end Go.Proofs.YtjhfgiieicloeaaGreatDoor

/- A program's text: its tree, or where it is refused. -/
namespace Go.Proofs.YtjhfgiieicloeaaGreatDoor
open Go Go.Am Go.Sx
abbrev aQ0 (ks:List Tr):Tr:=.node 80 0 [] [] ks
def bF2 (s:List UInt8) (l:List aF) (g:LT):Tr×Int×Int :=
 if g.2.2=0∧g.2.1=l.length then (if 8192<mV (aQ0 g.1) then (.nil,0,3) else if 60<qC (aQ0 g.1) then (.nil,0,7) else (aQ0 g.1,0,0))
 else (.nil,(if g.2.1<l.length then (l.getD g.2.1 (0,[],0,0)).2.2.2 else ((s.length:Nat):Int)),if g.2.2=0 then 6 else g.2.2)
theorem bEY {s:List UInt8} {l:List aF} (h:lxS s 0 []=(l,0,0)):l.length≤s.length∧∀ t∈l,TkG (t.1,t.2.1) t.2.2.1∧0≤t.2.2.2∧t.2.2.2<((s.length:Nat):Int):=by
 rcases bDG _ s 0 [] (Nat.le_refl _) with ⟨_,_,m,h1,h2,h3⟩ | ⟨j,h1,_⟩
 ·rw [h,List.nil_append] at h1
  obtain rfl:l=m:=h1
  exact ⟨h2,fun t ht=>⟨(h3 t ht).1,by have:=(h3 t ht).2; omega,by have:=(h3 t ht).2; omega⟩⟩
 ·rw [h] at h1; exact absurd (show (0:Int)=5 from congrArg (·.2.2) h1) (by decide)
theorem bBw {s:List UInt8} {l:List aF} (hl:l.length≤20000) {g:LT} (hj:g.2.1≤l.length) (hw:g.2.2=0→wL g.1≤1048576) :
  Ev (fun K=>iteS (decide (g.2.2=0)) (iteS (decide (((g.2.1:Nat):Int)<((l.length:Nat):Int))) (fV K s 6 l (if g.2.2=0 then g.1 else []) ((g.2.1:Nat):Int)) (fV K s g.2.2 l (if g.2.2=0 then g.1 else []) ((g.2.1:Nat):Int))) (fV K s g.2.2 l (if g.2.2=0 then g.1 else []) ((g.2.1:Nat):Int))) (bF2 s l g):=by
 obtain ⟨ks,j,e⟩:=g
 simp only at hj hw ⊢
 have bad:∀ (k:List Tr) (c:Int),c≠0→Ev (fun K=>fV K s c l k (j:Int)) (.nil,(if j<l.length then (l.getD j (0,[],0,0)).2.2.2 else ((s.length:Nat):Int)),c):=fun k c hc=>by
  refine Ev.step (fun k=>by rw [fV]) ?_
  refine Ev.nT hc ?_
  refine Ev.d (fun h=>?_) (fun h=>?_)
  ·refine Ev.opt (dL (by omega)) (Ev.pure' ?_)
   rw [if_pos (by omega)]
   congr 3
   rw [List.getD_eq_getElem?_getD,List.getElem?_eq_getElem (by omega)]; rfl
  ·rw [if_neg (by omega)]; exact Ev.pure
 unfold bF2
 simp only
 by_cases he:e=0
 ·subst he
  refine Ev.dT rfl ?_
  refine Ev.d (fun h=>?_) (fun h=>?_)
  ·rw [if_neg (show ¬ ((0:Int)=0∧j=l.length) from fun h'=>by omega)]
   exact bad _ 6 (by decide)
  ·have hj':j=l.length:=by omega
   rw [if_pos (show (0:Int)=0∧j=l.length from ⟨rfl,hj'⟩)]
   have hw:=hw rfl
   have hwp:(aQ0 ks).w≤1099511627776:=by rw [aH]; omega
   refine Ev.step (fun k=>by rw [fV]) ?_
   refine Ev.nF rfl ?_
   rw [if_pos rfl]
   refine Ev.bind (iT _ _ _) ?_
   refine Ev.bind (bAS (aQ0 ks) hwp) ?_
   have es:=bAH (aQ0 ks) hwp
   generalize mV (aQ0 ks)=q1
   generalize qC (aQ0 ks)=q2 at es ⊢
   refine Ev.d (fun h1=>?_) (fun h1=>?_)
   ·rw [if_pos (show 8192<q1 by omega)]; exact Ev.pure
   rw [if_neg (show ¬ 8192<q1 by omega)]
   refine Ev.bind es ?_
   refine Ev.d (fun h2=>?_) (fun h2=>?_)
   ·rw [if_pos (show 60<q2 by omega)]; exact Ev.pure
   ·rw [if_neg (show ¬ 60<q2 by omega)]; exact Ev.pure
 ·refine Ev.dF he ?_
  rw [if_neg (show ¬ (e=0∧j=l.length) from fun h=>he h.1),if_neg he,if_neg he]
  exact bad _ e he
theorem bIw {s:List UInt8} {l:List aF} {n:Nat} (hs:s.length≤16384) (hr:Rk s) (h:lxS s 0 []=(l,0,0)) (hn:8 * l.length+2≤n):Ev (fun K=>vJ K s) (bF2 s l (yE l n true [] 0)):=by
 obtain ⟨h1,h2⟩:=bEY h
 have hl:l.length≤20000:=by omega
 have hx:Ev (fun K=>uQ K s) (l,0,0):=by
  rcases aUo hs with ⟨_,a⟩ | ⟨a,_⟩
  ·rw [h] at a; exact a
  ·exact absurd hr a
 refine Ev.congr (f:=fun K=>_) ?_ (fun K=>by rw [vJ])
 refine Ev.bind hx ?_
 refine Ev.nF rfl ?_
 refine Ev.bind (bFb hl (i:=0) (n:=n) (by omega) (by omega)) ?_
 have b:=bGm hl (n:=n) (top:=true) (out:=[]) (i:=0) (Nat.zero_le _)
 obtain ⟨_,b2,b3⟩:=b
 exact bBw hl b2 (fun he=>by have:=b3 he; rw [aK] at this; omega)
end Go.Proofs.YtjhfgiieicloeaaGreatDoor

