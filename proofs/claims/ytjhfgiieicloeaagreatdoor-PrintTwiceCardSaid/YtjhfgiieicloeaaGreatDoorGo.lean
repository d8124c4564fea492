/- Joined texts: M5w, M7. -/
import Derived.Test.YtjhfgiieicloeaaGreatDoorGf
import Derived.Test.YtjhfgiieicloeaaGreatDoorGp
import Derived.Test.YtjhfgiieicloeaaGreatDoorGn
import Derived.Test.YtjhfgiieicloeaaGreatDoorGq
import Derived.Test.YtjhfgiieicloeaaGreatDoorGl
/- The document's example of layer 8, at the program. -/
namespace Go.Proofs.YtjhfgiieicloeaaGreatDoor
open Go Go.Am Go.Sx
end Go.Proofs.YtjhfgiieicloeaaGreatDoor

/- A program's text: its tree, or where it is refused. -/
namespace Go.Proofs.YtjhfgiieicloeaaGreatDoor
open Go Go.Am Go.Sx
abbrev aMn (ks:List Tr):Tr:=.node 80 0 [] [] ks
def bBR (s:List UInt8) (l:List aF) (g:LT):Tr×Int×Int :=
 if g.2.2=0∧g.2.1=l.length then (if 8192<oK (aMn g.1) then (.nil,0,3) else if 60<pR (aMn g.1) then (.nil,0,7) else (aMn g.1,0,0))
 else (.nil,(if g.2.1<l.length then (l.getD g.2.1 (0,[],0,0)).2.2.2 else ((s.length:Nat):Int)),if g.2.2=0 then 6 else g.2.2)
theorem aZp {s:List UInt8} {l:List aF} (h:lxS s 0 []=(l,0,0)):l.length≤s.length∧∀ t∈l,TkG (t.1,t.2.1) t.2.2.1∧0≤t.2.2.2∧t.2.2.2<((s.length:Nat):Int):=by
 rcases aYG _ s 0 [] (Nat.le_refl _) with ⟨_,_,m,h1,h2,h3⟩ | ⟨j,h1,_⟩
 ·rw [h,List.nil_append] at h1
  obtain rfl:l=m:=h1
  exact ⟨h2,fun t ht=>⟨(h3 t ht).1,by have:=(h3 t ht).2; omega,by have:=(h3 t ht).2; omega⟩⟩
 ·rw [h] at h1; exact absurd (show (0:Int)=5 from congrArg (·.2.2) h1) (by decide)
theorem bAq {s:List UInt8} {l:List aF} (hl:l.length≤20000) {g:LT} (hj:g.2.1≤l.length) (hw:g.2.2=0→wL g.1≤1048576) :
  Ev (fun K=>iteS (decide (g.2.2=0)) (iteS (decide (((g.2.1:Nat):Int)<((l.length:Nat):Int))) (gA K s 6 l (if g.2.2=0 then g.1 else []) ((g.2.1:Nat):Int)) (gA K s g.2.2 l (if g.2.2=0 then g.1 else []) ((g.2.1:Nat):Int))) (gA K s g.2.2 l (if g.2.2=0 then g.1 else []) ((g.2.1:Nat):Int))) (bBR s l g):=by
 obtain ⟨ks,j,e⟩:=g
 simp only at hj hw ⊢
 have bad:∀ (k:List Tr) (c:Int),c≠0→Ev (fun K=>gA K s c l k (j:Int)) (.nil,(if j<l.length then (l.getD j (0,[],0,0)).2.2.2 else ((s.length:Nat):Int)),c):=fun k c hc=>by
  refine Ev.step (fun k=>by rw [gA]) ?_
  refine Ev.nT hc ?_
  refine Ev.d (fun h=>?_) (fun h=>?_)
  ·refine Ev.opt (eM (by omega)) (Ev.pure' ?_)
   rw [if_pos (by omega)]
   congr 3
   rw [List.getD_eq_getElem?_getD,List.getElem?_eq_getElem (by omega)]; rfl
  ·rw [if_neg (by omega)]; exact Ev.pure
 unfold bBR
 simp only
 by_cases he:e=0
 ·subst he
  refine Ev.dT rfl ?_
  refine Ev.d (fun h=>?_) (fun h=>?_)
  ·rw [if_neg (show ¬ ((0:Int)=0∧j=l.length) from fun h'=>by omega)]
   exact bad _ 6 (by decide)
  ·have hj':j=l.length:=by omega
   rw [if_pos (show (0:Int)=0∧j=l.length from ⟨rfl,hj'⟩)]
   have hw:=hw rfl
   have hwp:(aMn ks).w≤1099511627776:=by rw [aH]; omega
   refine Ev.step (fun k=>by rw [gA]) ?_
   refine Ev.nF rfl ?_
   rw [if_pos rfl]
   refine Ev.bind (iY _ _ _) ?_
   refine Ev.bind (aZP (aMn ks) hwp) ?_
   have es:=aZw (aMn ks) hwp
   generalize oK (aMn ks)=q1
   generalize pR (aMn ks)=q2 at es ⊢
   refine Ev.d (fun h1=>?_) (fun h1=>?_)
   ·rw [if_pos (show 8192<q1 by omega)]; exact Ev.pure
   rw [if_neg (show ¬ 8192<q1 by omega)]
   refine Ev.bind es ?_
   refine Ev.d (fun h2=>?_) (fun h2=>?_)
   ·rw [if_pos (show 60<q2 by omega)]; exact Ev.pure
   ·rw [if_neg (show ¬ 60<q2 by omega)]; exact Ev.pure
 ·refine Ev.dF he ?_
  rw [if_neg (show ¬ (e=0∧j=l.length) from fun h=>he h.1),if_neg he,if_neg he]
  exact bad _ e he
theorem bCn {s:List UInt8} {l:List aF} {n:Nat} (hs:s.length≤16384) (hr:Rk s) (h:lxS s 0 []=(l,0,0)) (hn:8 * l.length+2≤n):Ev (fun K=>kK K s) (bBR s l (qE l n true [] 0)):=by
 obtain ⟨h1,h2⟩:=aZp h
 have hl:l.length≤20000:=by omega
 have hx:Ev (fun K=>qJ K s) (l,0,0):=by
  rcases aM0 hs with ⟨_,a⟩ | ⟨a,_⟩
  ·rw [h] at a; exact a
  ·exact absurd hr a
 refine Ev.congr (f:=fun K=>_) ?_ (fun K=>by rw [kK])
 refine Ev.bind hx ?_
 refine Ev.nF rfl ?_
 refine Ev.bind (bE4 hl (i:=0) (n:=n) (by omega) (by omega)) ?_
 have b:=aZ1 hl (n:=n) (top:=true) (out:=[]) (i:=0) (Nat.zero_le _)
 obtain ⟨_,b2,b3⟩:=b
 exact bAq hl b2 (fun he=>by have:=b3 he; rw [aI] at this; omega)
theorem bAw {s:List UInt8} (hs:s.length≤16384) (h:¬ (Rk s∧∃ l,lxS s 0 []=(l,0,0))):∃ (j:Nat) (e:Int),e≠0∧j≤s.length∧Ev (fun K=>qJ K s) ([],(j:Int),e)∧Ev (fun K=>kK K s) (.nil,(j:Int),e):=by
 have go:∀ (j:Nat) (e:Int),e≠0→Ev (fun K=>qJ K s) ([],(j:Int),e)→Ev (fun K=>kK K s) (.nil,(j:Int),e):=fun j e he hx=>by
  refine Ev.congr (f:=fun K=>_) ?_ (fun K=>by rw [kK])
  refine Ev.bind hx ?_
  exact Ev.nT he Ev.pure
 rcases aM0 hs with ⟨a,b⟩ | ⟨_,j,c,d⟩
 ·rcases aYG _ s 0 [] (Nat.le_refl _) with ⟨h1,h2,_⟩ | ⟨j,h1,h2⟩
  ·refine absurd ⟨a,(lxS s 0 []).1,?_⟩ h
   generalize lxS s 0 []=g at *
   obtain ⟨x,y,z⟩:=g
   simp only at h1 h2
   rw [h1,h2]
  ·rw [h1] at b
   exact ⟨j,5,by decide,by omega,b,go j 5 (by decide) b⟩
 ·exact ⟨j,4,by decide,c,d,go j 4 (by decide) d⟩
end Go.Proofs.YtjhfgiieicloeaaGreatDoor

