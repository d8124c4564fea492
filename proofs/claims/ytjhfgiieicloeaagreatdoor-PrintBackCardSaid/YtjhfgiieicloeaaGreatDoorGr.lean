/- Joined texts: P1, P2, P3. -/
import Derived.Test.YtjhfgiieicloeaaGreatDoorGv
import Derived.Test.YtjhfgiieicloeaaGreatDoorGm
import Derived.Test.YtjhfgiieicloeaaGreatDoorGk
import Derived.Test.YtjhfgiieicloeaaGreatDoorGu
import Derived.Test.YtjhfgiieicloeaaGreatDoorGl
import Derived.Test.YtjhfgiieicloeaaGreatDoorGo
/- Modules, signatures, specifications, declarations as words, and the parser on them. Printed by gen9/p1.py. -/
namespace Go.Proofs.YtjhfgiieicloeaaGreatDoor
open Go Go.Am Go.Sx
structure Zg (R:List Wd):Prop where
 m:kW R [42]=false
 a:kW R [45,62]=false
 w:kW R aE1=false
 p:kW R [40]=false
structure Z (R:List Wd):Prop where
 g:Zg R
 c:kW R [58]=false
 cs:kW R [58,62]=false
 b:kW R [124]=false
 e:kW R [61]=false
 st:St R
theorem bJD:Z []:=⟨⟨rfl,rfl,rfl,rfl⟩,rfl,rfl,rfl,rfl,bGM⟩
theorem aW3 {s:List UInt8} (R:List Wd) (h:s∉[[42],[45,62],aE1,[40]]):Zg ((3,s) :: R):=by
 simp only [List.mem_cons,not_or,List.not_mem_nil] at h
 obtain ⟨h1,h2,h3,h4,_⟩:=h
 refine ⟨?_,?_,?_,?_⟩ <;> rw [jB]
 ·exact decide_eq_false h1
 ·exact decide_eq_false h2
 ·exact decide_eq_false h3
 ·exact decide_eq_false h4
def bAp:List (List UInt8):=[yI,fR,mU,aAj,aAC,aA6,aAY,aJK,aJJ,aHd,[41]]
theorem bC6 {s:List UInt8} (R:List Wd) (h:s∈bAp):Z ((3,s) :: R):=by
 have n1:∀ u∈bAp,u∉[[42],[45,62],aE1,[40],[58],[58,62],[124],[61]]:=by decide
 have n2:∀ u∈bAp,u∉[[116,114,117,101],[102,97,108,115,101],[40],[35,49],[35,50],[42],[43],[45],[61],[60]]:=by decide
 have h1:=n1 s h
 simp only [List.mem_cons,not_or,List.not_mem_nil] at h1
 obtain ⟨a1,a2,a3,a4,a5,a6,a7,a8,_⟩:=h1
 refine ⟨aW3 R (by simp only [List.mem_cons,not_or,List.not_mem_nil]; exact ⟨a1,a2,a3,a4,fun e=>e⟩),?_,?_,?_,?_,aDv R (n2 s h)⟩ <;> rw [jB]
 ·exact decide_eq_false a5
 ·exact decide_eq_false a6
 ·exact decide_eq_false a7
 ·exact decide_eq_false a8
def Gp (t:Tr) (w:List Wd):Prop:=∀ (l:List aF) (i n:Nat) (R:List Wd),Nk l→At l i (w++R)→kW R [42]=false→kW R [45,62]=false→4 * w.length+2≤n→∃ m,n≤m+w.length+1∧sK l n i=aGv l m t (i+w.length)
def Mp (t:Tr) (w:List Wd):Prop:=∀ (l:List aF) (i n:Nat) (R:List Wd),Nk l→At l i (w++R)→Zg R→4 * w.length+2≤n→∃ m,n≤m+w.length+1∧aAw l n i=aD6 l m t (i+w.length)
def Sq (t:Tr) (w:List Wd):Prop:=∀ (l:List aF) (i n:Nat) (R:List Wd),Nk l→At l i (w++R)→Z R→4 * w.length+1≤n→aCc l n i=(t,i+w.length,0)
def Dq (top:Bool) (t:Tr) (w:List Wd):Prop:=∀ (l:List aF) (i n:Nat) (R:List Wd),Nk l→At l i (w++R)→Z R→4 * w.length+1≤n→aA1 l n top i=(t,i+w.length,0)
theorem aHE {α:Type} {a:α} {i j:Nat} {e:Int} (h:i=j):(a,i,e)=(a,j,e):=by rw [h]
theorem aWC {α:Type} {d:α} {l:List aF} {s:List UInt8} {f:Nat→α×Nat×Int} {i:Nat} {R:List Wd} (h:At l i ((3,s) :: R)):bhd d l s f i=f (i+1):=by
 unfold bhd
 rw [ks1 h,ks0,aO]
theorem lg1 {l:List aF} {i:Nat} {s:List UInt8} {R:List Wd} (h:At l i ((1,s) :: R)) (hc:lgS s=true):lgR l i=(s,i+1,0):=by
 have e:gW ((1,s) :: R)=(s,true):=if_pos (c:=(1:Int)=1∧lgS s=true) ⟨rfl,hc⟩
 unfold lgR
 rw [h.long,e]
 rfl
theorem ex1 {l:List aF} {i:Nat} {t:Tr} {w R:List Wd} (hp:A0 t w) (hn:Nk l) (h:At l i (w++R)) (hs:St R):exR l i=(t,i+w.length,0):=by
 have:=h.len
 exact hp l i _ R hn h hs (by omega)
theorem cn1 {l:List aF} {i:Nat} {c:List Tr} {w R:List Wd} (hp:aM0 c w) (hd:(c.map nameOf).Nodup) (h:At l i (w++R)) (hz:Z R):cnR l i=(c,i+w.length,0):=by
 have:=h.len
 have:=bA5 hp l i (3 * l.length+3) R [] h hz.g.m hz.g.a hz.b (fun k _=>by simp) hd (by omega)
 unfold cnR
 rw [this,List.nil_append]
theorem Gp.fin {t:Tr} {w:List Wd} (h:Gp t w) {l:List aF} {i n:Nat} {R:List Wd} (hn:Nk l) (ha:At l i (w++R)) (hm:kW R [42]=false) (hq:kW R [45,62]=false) (hw:kW R aE1=false) (hf:4 * w.length+2≤n):sK l n i=(t,i+w.length,0):=by
 obtain ⟨m,h1,h2⟩:=h l i n R hn ha hm hq hf
 obtain ⟨m,rfl⟩:∃ q,m=q+1:=⟨m - 1,by omega⟩
 rw [h2,aGv,ha.app.key,hw,if_neg (by simp)]
theorem Mp.fin {t:Tr} {w:List Wd} (h:Mp t w) {l:List aF} {i n:Nat} {R:List Wd} (hn:Nk l) (ha:At l i (w++R)) (hg:Zg R) (hc:kW R [58]=false) (hs:kW R [58,62]=false) (hf:4 * w.length+2≤n):aAw l n i=(t,i+w.length,0):=by
 obtain ⟨m,h1,h2⟩:=h l i n R hn ha hg hf
 obtain ⟨m,rfl⟩:∃ q,m=q+1:=⟨m - 1,by omega⟩
 rw [h2,aD6,ha.app.key,hc,if_neg (by simp),ha.app.key,hs,if_neg (by simp)]
theorem aWI {l:List aF} {i:Nat} {s:List UInt8} {R:List Wd} {t:List (List UInt8)} (h:At l i ((3,s) :: R)) (hs:s∈t):aB3 l i t=true:=by
 unfold aB3
 refine List.any_eq_true.2 ⟨s,hs,?_⟩
 rw [h.key,jB,decide_eq_true rfl]
theorem aWs {l:List aF} {i:Nat} {R:List Wd} {t:List (List UInt8)} (h:At l i R) (hs:∀ s∈t,kW R s=false):aB3 l i t=false:=by
 unfold aB3
 refine List.any_eq_false.2 fun s hm=>?_
 rw [h.key,hs s hm]; simp
abbrev TW:=Tr×List Wd
def flW (L:List TW):List Wd:=(L.map Prod.snd).flatten
theorem aDf (a:TW) (L:List TW):flW (a :: L)=a.2++flW L:=rfl
abbrev aS9:List (List UInt8):=[yI,fR,mU,aAj,aAC,aA6]
abbrev aII (top:Bool):List (List UInt8):=if top=true then [yI,fR,mU,aAj,aAY,aAC,aJK,aJJ] else [yI,fR,mU,aAj,aAY,aAC]
def Hd (t:List (List UInt8)) (w:List Wd):Prop:=∃ s r,w=(3,s) :: r∧s∈t
theorem bDh {t:List (List UInt8)} (ht:∀ s∈t,s∈bAp) {L:List TW} (hL:∀ a∈L,Hd t a.2) {R:List Wd} (hz:Z R):Z (flW L++R):=by
 cases L with
 | nil=>exact hz
 | cons a L =>
  obtain ⟨s,r,e,hs⟩:=hL a List.mem_cons_self
  rw [aDf,e]
  exact bC6 _ (ht s hs)
theorem bEk:∀ (L:List TW),(∀ a∈L,Sq a.1 a.2∧Hd aS9 a.2)→∀ (l:List aF) (i n:Nat) (R:List Wd) (out:List Tr),Nk l→At l i (flW L++R)→Z R→(∀ s∈aS9,kW R s=false)→4 * (flW L).length+2≤n→aDs l n out i=(out++L.map Prod.fst,i+(flW L).length,0)
 | [],_,l,i,n,R,out,_,ha,_,hR,hf=>by
  obtain ⟨n,rfl⟩:∃ q,n=q+1:=⟨n - 1,by omega⟩
  have ha:At l i R:=ha
  rw [aDs,aWs ha hR,if_neg (by simp)]
  simp [flW]
 | a :: L,h,l,i,n,R,out,hn,ha,hz,hR,hf=>by
  obtain ⟨n,rfl⟩:∃ q,n=q+1:=⟨n - 1,by omega⟩
  obtain ⟨h1,s,r,e,hs⟩:=h a List.mem_cons_self
  rw [aDf,List.append_assoc] at ha
  rw [aDf,List.length_append] at hf
  have hl:1≤a.2.length:=by rw [e]; simp
  have hk:=ha
  rw [e,List.cons_append] at hk
  have zr:=bDh (t:=aS9) (by decide) (L:=L) (fun x hx=>(h x (List.mem_cons_of_mem _ hx)).2) hz
  rw [aDs,aWI hk hs,if_pos rfl,h1 l i n _ hn ha zr (by omega),aO]
  rw [bEk L (fun x hx=>h x (List.mem_cons_of_mem _ hx)) l _ n R _ hn ha.app hz hR (by omega)]
  rw [aDf,List.length_append,List.append_assoc,List.map_cons]
  exact aHE (by omega)
theorem aZq {top:Bool}:∀ (L:List TW),(∀ a∈L,Dq top a.1 a.2∧Hd (aII top) a.2)→∀ (l:List aF) (i n:Nat) (R:List Wd) (out:List Tr),Nk l→At l i (flW L++R)→Z R→(∀ s∈aII top,kW R s=false)→4 * (flW L).length+2≤n→yE l n top out i=(out++L.map Prod.fst,i+(flW L).length,0)
 | [],_,l,i,n,R,out,_,ha,_,hR,hf=>by
  obtain ⟨n,rfl⟩:∃ q,n=q+1:=⟨n - 1,by omega⟩
  have ha:At l i R:=ha
  have e:(aB3 l i [yI,fR,mU,aAj,aAY,aAC] || (top && aB3 l i [aJK,aJJ]))=false:=by
   cases top with
   | false=>rw [aWs (t:=[yI,fR,mU,aAj,aAY,aAC]) ha (fun s hs=>hR s hs)]; rfl
   | true =>
    have d1:∀ s∈[yI,fR,mU,aAj,aAY,aAC],s∈aII true:=by decide
    have d2:∀ s∈[aJK,aJJ],s∈aII true:=by decide
    rw [aWs ha (fun s hs=>hR s (d1 s hs)),aWs ha (fun s hs=>hR s (d2 s hs))]
    rfl
  rw [yE,e,if_neg (by simp)]
  simp [flW]
 | a :: L,h,l,i,n,R,out,hn,ha,hz,hR,hf=>by
  obtain ⟨n,rfl⟩:∃ q,n=q+1:=⟨n - 1,by omega⟩
  obtain ⟨h1,s,r,e,hs⟩:=h a List.mem_cons_self
  rw [aDf,List.append_assoc] at ha
  rw [aDf,List.length_append] at hf
  have hl:1≤a.2.length:=by rw [e]; simp
  have hk:=ha
  rw [e,List.cons_append] at hk
  have zr:=bDh (t:=aII top) (by cases top <;> decide) (L:=L) (fun x hx=>(h x (List.mem_cons_of_mem _ hx)).2) hz
  have e2:(aB3 l i [yI,fR,mU,aAj,aAY,aAC] || (top && aB3 l i [aJK,aJJ]))=true:=by
   cases top with
   | false=>rw [aWI hk (show s∈[yI,fR,mU,aAj,aAY,aAC] from hs)]; rfl
   | true =>
    have d:∀ s∈aII true,s∈[yI,fR,mU,aAj,aAY,aAC]∨s∈[aJK,aJJ]:=by decide
    rcases d s hs with h | h
    ·rw [aWI hk h]; rfl
    ·rw [aWI (t:=[aJK,aJJ]) hk h]; simp
  rw [yE,e2,if_pos rfl,h1 l i n _ hn ha zr (by omega),aO]
  rw [aZq L (fun x hx=>h x (List.mem_cons_of_mem _ hx)) l _ n R _ hn ha.app hz hR (by omega)]
  rw [aDf,List.length_append,List.append_assoc,List.map_cons]
  exact aHE (by omega)
section
variable {s x:List UInt8} {a b:Tr} {wa wb:List Wd}
theorem bIy (hs:jG s=true) (ha':Pa0 a wa):Sq (.node 60 0 s [] [a]) ((3,yI) :: (1,s) :: (3,[58]) :: wa):=fun l i n R hn ha hz hf=>by
 simp only [List.length_cons] at hf
 simp only [List.cons_append] at ha
 obtain ⟨n,rfl⟩:∃ q,n=q+1:=⟨n - 1,by omega⟩
 rw [aCc]
 rw [ha.key,jB,decide_eq_true rfl,if_pos rfl]
 have h1:=ha.next
 rw [nm1 h1 hs,aO]
 have h2:=h1.next
 rw [aWC h2]
 have h3:=h2.next
 rw [ty1 ha' h3 hz.g.m hz.g.a,aO]
 exact aHE (by simp only [List.length_cons] <;> omega)
theorem bHh (hs:jG s=true) (ha':Pa0 a wa):Sq (.node 61 0 s [] [a]) ((3,fR) :: (1,s) :: (3,[61]) :: wa):=fun l i n R hn ha hz hf=>by
 simp only [List.length_cons] at hf
 simp only [List.cons_append] at ha
 obtain ⟨n,rfl⟩:∃ q,n=q+1:=⟨n - 1,by omega⟩
 rw [aCc]
 rw [ha.key,jB,if_neg (by decide)]
 rw [ha.key,jB,decide_eq_true rfl,if_pos rfl]
 have h1:=ha.next
 rw [nm1 h1 hs,aO]
 have h2:=h1.next
 rw [h2.key,jB,decide_eq_true rfl,if_pos rfl]
 have h3:=h2.next
 rw [ty1 ha' h3 hz.g.m hz.g.a,aO]
 exact aHE (by simp only [List.length_cons] <;> omega)
theorem bHk (hs:jG s=true):Sq (.node 61 0 s [] []) ([(3,fR),(1,s)]):=fun l i n R hn ha hz hf=>by
 simp only [List.length_cons,List.length_nil] at hf
 simp only [List.cons_append,List.nil_append] at ha
 obtain ⟨n,rfl⟩:∃ q,n=q+1:=⟨n - 1,by omega⟩
 rw [aCc]
 rw [ha.key,jB,if_neg (by decide)]
 rw [ha.key,jB,decide_eq_true rfl,if_pos rfl]
 have h1:=ha.next
 rw [nm1 h1 hs,aO]
 have h2:=h1.next
 rw [h2.key,hz.e,if_neg (by simp)]
 exact aHE (by simp only [List.length_cons,List.length_nil] <;> omega)
theorem bGU (hs:jG s=true) {ks:List Tr} (hc:aM0 ks wa) (hd:(ks.map nameOf).Nodup):Sq (.node 62 0 s [] ks) ((3,mU) :: (1,s) :: (3,[61]) :: wa):=fun l i n R hn ha hz hf=>by
 simp only [List.length_cons] at hf
 simp only [List.cons_append] at ha
 obtain ⟨n,rfl⟩:∃ q,n=q+1:=⟨n - 1,by omega⟩
 rw [aCc]
 rw [ha.key,jB,if_neg (by decide)]
 rw [ha.key,jB,if_neg (by decide)]
 rw [ha.key,jB,decide_eq_true rfl,if_pos rfl]
 have h1:=ha.next
 rw [nm1 h1 hs,aO]
 have h2:=h1.next
 rw [ks1 h2,ks0,aO]
 have h3:=h2.next
 rw [cn1 hc hd h3 hz,aO]
 exact aHE (by simp only [List.length_cons] <;> omega)
theorem bHq (hs:jG s=true) (ha':Gp a wa):Sq (.node 63 0 s [] [a]) ((3,aAj) :: (1,s) :: (3,[58]) :: wa):=fun l i n R hn ha hz hf=>by
 simp only [List.length_cons] at hf
 simp only [List.cons_append] at ha
 obtain ⟨n,rfl⟩:∃ q,n=q+1:=⟨n - 1,by omega⟩
 rw [aCc]
 rw [ha.key,jB,if_neg (by decide)]
 rw [ha.key,jB,if_neg (by decide)]
 rw [ha.key,jB,if_neg (by decide)]
 rw [ha.key,jB,decide_eq_true rfl,if_pos rfl]
 have h1:=ha.next
 rw [nm1 h1 hs,aO]
 have h2:=h1.next
 rw [aWC h2]
 have h3:=h2.next
 rw [Gp.fin ha' hn h3 hz.g.m hz.g.a hz.g.w (by omega),aO]
 exact aHE (by simp only [List.length_cons] <;> omega)
theorem bIb (ha':Gp a wa):Sq (.node 64 0 [] [] [a]) ((3,aAC) :: wa):=fun l i n R hn ha hz hf=>by
 simp only [List.length_cons] at hf
 simp only [List.cons_append] at ha
 obtain ⟨n,rfl⟩:∃ q,n=q+1:=⟨n - 1,by omega⟩
 rw [aCc]
 rw [ha.key,jB,if_neg (by decide)]
 rw [ha.key,jB,if_neg (by decide)]
 rw [ha.key,jB,if_neg (by decide)]
 rw [ha.key,jB,if_neg (by decide)]
 rw [ha.key,jB,decide_eq_true rfl,if_pos rfl]
 have h1:=ha.next
 rw [Gp.fin ha' hn h1 hz.g.m hz.g.a hz.g.w (by omega),aO]
 exact aHE (by simp only [List.length_cons] <;> omega)
theorem bG7 (hs:lgS s=true) (hx:lgS x=true):Sq (.node 65 0 s x []) ([(3,aA6),(3,fR),(1,s),(3,[61]),(1,x)]):=fun l i n R hn ha hz hf=>by
 simp only [List.length_cons,List.length_nil] at hf
 simp only [List.cons_append,List.nil_append] at ha
 obtain ⟨n,rfl⟩:∃ q,n=q+1:=⟨n - 1,by omega⟩
 rw [aCc]
 rw [ha.key,jB,if_neg (by decide)]
 rw [ha.key,jB,if_neg (by decide)]
 rw [ha.key,jB,if_neg (by decide)]
 rw [ha.key,jB,if_neg (by decide)]
 rw [ha.key,jB,if_neg (by decide)]
 rw [ha.key,jB,decide_eq_true rfl,if_pos rfl]
 have h1:=ha.next
 rw [ks1 h1,ks0,aO]
 have h2:=h1.next
 rw [lg1 h2 hs,aO]
 have h3:=h2.next
 rw [ks1 h3,ks0,aO]
 have h4:=h3.next
 rw [lg1 h4 hx,aO]
 exact aHE (by simp only [List.length_cons,List.length_nil] <;> omega)
theorem bH4 {top:Bool} (hs:jG s=true) (ha':A0 a wa):Dq top (.node 70 0 s [] [a]) ((3,yI) :: (1,s) :: (3,[61]) :: wa):=fun l i n R hn ha hz hf=>by
 simp only [List.length_cons] at hf
 simp only [List.cons_append] at ha
 obtain ⟨n,rfl⟩:∃ q,n=q+1:=⟨n - 1,by omega⟩
 rw [aA1]
 rw [ha.key,jB,decide_eq_true rfl,if_pos rfl]
 have h1:=ha.next
 rw [nm1 h1 hs,aO]
 have h2:=h1.next
 rw [h2.key,jB,if_neg (by decide)]
 rw [aWC h2]
 have h3:=h2.next
 rw [ex1 ha' hn h3 hz.st,aO]
 exact aHE (by simp only [List.length_cons] <;> omega)
theorem bGK {top:Bool} (hs:jG s=true) (ha':Pa0 a wa) (hb:A0 b wb):Dq top (.node 70 0 s [] [a,b]) ((3,yI) :: (1,s) :: (3,[58]) :: (wa++(3,[61]) :: wb)):=fun l i n R hn ha hz hf=>by
 simp only [List.length_cons,List.length_append] at hf
 simp only [List.cons_append,List.append_assoc] at ha
 obtain ⟨n,rfl⟩:∃ q,n=q+1:=⟨n - 1,by omega⟩
 rw [aA1]
 rw [ha.key,jB,decide_eq_true rfl,if_pos rfl]
 have h1:=ha.next
 rw [nm1 h1 hs,aO]
 have h2:=h1.next
 rw [h2.key,jB,decide_eq_true rfl,if_pos rfl]
 have h3:=h2.next
 rw [ty1 ha' h3 (by rw [jB]; decide) (by rw [jB]; decide),aO]
 have h4:=h3.app
 rw [aWC h4]
 have h5:=h4.next
 rw [ex1 hb hn h5 hz.st,aO]
 exact aHE (by simp only [List.length_cons,List.length_append] <;> omega)
theorem bJj {top:Bool} (hs:jG s=true) (ha':Pa0 a wa):Dq top (.node 71 0 s [] [a]) ((3,fR) :: (1,s) :: (3,[61]) :: wa):=fun l i n R hn ha hz hf=>by
 simp only [List.length_cons] at hf
 simp only [List.cons_append] at ha
 obtain ⟨n,rfl⟩:∃ q,n=q+1:=⟨n - 1,by omega⟩
 rw [aA1]
 rw [ha.key,jB,if_neg (by decide)]
 rw [ha.key,jB,decide_eq_true rfl,if_pos rfl]
 have h1:=ha.next
 rw [nm1 h1 hs,aO]
 have h2:=h1.next
 rw [aWC h2]
 have h3:=h2.next
 rw [ty1 ha' h3 hz.g.m hz.g.a,aO]
 exact aHE (by simp only [List.length_cons] <;> omega)
theorem bIl {top:Bool} (hs:jG s=true) {ks:List Tr} (hc:aM0 ks wa) (hd:(ks.map nameOf).Nodup):Dq top (.node 72 0 s [] ks) ((3,mU) :: (1,s) :: (3,[61]) :: wa):=fun l i n R hn ha hz hf=>by
 simp only [List.length_cons] at hf
 simp only [List.cons_append] at ha
 obtain ⟨n,rfl⟩:∃ q,n=q+1:=⟨n - 1,by omega⟩
 rw [aA1]
 rw [ha.key,jB,if_neg (by decide)]
 rw [ha.key,jB,if_neg (by decide)]
 rw [ha.key,jB,decide_eq_true rfl,if_pos rfl]
 have h1:=ha.next
 rw [nm1 h1 hs,aO]
 have h2:=h1.next
 rw [ks1 h2,ks0,aO]
 have h3:=h2.next
 rw [cn1 hc hd h3 hz,aO]
 exact aHE (by simp only [List.length_cons] <;> omega)
theorem bHI {top:Bool} (hs:jG s=true) (ha':Mp a wa):Dq top (.node 73 0 s [] [a]) ((3,aAj) :: (1,s) :: (3,[61]) :: wa):=fun l i n R hn ha hz hf=>by
 simp only [List.length_cons] at hf
 simp only [List.cons_append] at ha
 obtain ⟨n,rfl⟩:∃ q,n=q+1:=⟨n - 1,by omega⟩
 rw [aA1]
 rw [ha.key,jB,if_neg (by decide)]
 rw [ha.key,jB,if_neg (by decide)]
 rw [ha.key,jB,if_neg (by decide)]
 rw [ha.key,jB,decide_eq_true rfl,if_pos rfl]
 have h1:=ha.next
 rw [nm1 h1 hs,aO]
 have h2:=h1.next
 rw [aWC h2]
 have h3:=h2.next
 rw [Mp.fin ha' hn h3 hz.g hz.c hz.cs (by omega),aO]
 exact aHE (by simp only [List.length_cons] <;> omega)
theorem bG9 {top:Bool} (hs:lgS s=true):Dq top (.node 76 0 s [] []) ([(3,aAY),(1,s)]):=fun l i n R hn ha hz hf=>by
 simp only [List.length_cons,List.length_nil] at hf
 simp only [List.cons_append,List.nil_append] at ha
 obtain ⟨n,rfl⟩:∃ q,n=q+1:=⟨n - 1,by omega⟩
 rw [aA1]
 rw [ha.key,jB,if_neg (by decide)]
 rw [ha.key,jB,if_neg (by decide)]
 rw [ha.key,jB,if_neg (by decide)]
 rw [ha.key,jB,if_neg (by decide)]
 rw [ha.key,jB,decide_eq_true rfl,if_pos rfl]
 have h1:=ha.next
 rw [lg1 h1 hs,aO]
 exact aHE (by simp only [List.length_cons,List.length_nil] <;> omega)
theorem bHc {top:Bool} (hs:lgS s=true):Dq top (.node 77 0 s [] []) ([(3,aAC),(1,s)]):=fun l i n R hn ha hz hf=>by
 simp only [List.length_cons,List.length_nil] at hf
 simp only [List.cons_append,List.nil_append] at ha
 obtain ⟨n,rfl⟩:∃ q,n=q+1:=⟨n - 1,by omega⟩
 rw [aA1]
 rw [ha.key,jB,if_neg (by decide)]
 rw [ha.key,jB,if_neg (by decide)]
 rw [ha.key,jB,if_neg (by decide)]
 rw [ha.key,jB,if_neg (by decide)]
 rw [ha.key,jB,if_neg (by decide)]
 rw [ha.key,jB,decide_eq_true rfl,if_pos rfl]
 have h1:=ha.next
 rw [lg1 h1 hs,aO]
 exact aHE (by simp only [List.length_cons,List.length_nil] <;> omega)
theorem bHw (hs:jG s=true) (ha':Gp a wa):Dq true (.node 74 0 s [] [a]) ((3,aJK) :: (1,s) :: (3,[61]) :: wa):=fun l i n R hn ha hz hf=>by
 simp only [List.length_cons] at hf
 simp only [List.cons_append] at ha
 obtain ⟨n,rfl⟩:∃ q,n=q+1:=⟨n - 1,by omega⟩
 rw [aA1]
 rw [ha.key,jB,if_neg (by decide)]
 rw [ha.key,jB,if_neg (by decide)]
 rw [ha.key,jB,if_neg (by decide)]
 rw [ha.key,jB,if_neg (by decide)]
 rw [ha.key,jB,if_neg (by decide)]
 rw [ha.key,jB,if_neg (by decide)]
 rw [if_pos ⟨rfl,by rw [ha.key,jB,decide_eq_true rfl]⟩]
 have h1:=ha.next
 rw [nm1 h1 hs,aO]
 have h2:=h1.next
 rw [aWC h2]
 have h3:=h2.next
 rw [Gp.fin ha' hn h3 hz.g.m hz.g.a hz.g.w (by omega),aO]
 exact aHE (by simp only [List.length_cons] <;> omega)
theorem bId (hs:jG s=true) (hx:jG x=true) (ha':Gp a wa) (hb:Mp b wb):Dq true (.node 75 0 s x [a,b]) ((3,aJJ) :: (1,s) :: (3,[40]) :: (1,x) :: (3,[58]) :: (wa++(3,[41]) :: (3,[61]) :: wb)):=fun l i n R hn ha hz hf=>by
 simp only [List.length_cons,List.length_append] at hf
 simp only [List.cons_append,List.append_assoc] at ha
 obtain ⟨n,rfl⟩:∃ q,n=q+1:=⟨n - 1,by omega⟩
 rw [aA1]
 rw [ha.key,jB,if_neg (by decide)]
 rw [ha.key,jB,if_neg (by decide)]
 rw [ha.key,jB,if_neg (by decide)]
 rw [ha.key,jB,if_neg (by decide)]
 rw [ha.key,jB,if_neg (by decide)]
 rw [ha.key,jB,if_neg (by decide)]
 rw [if_neg (fun h=>absurd h.2 (by rw [ha.key,jB]; decide))]
 rw [if_pos ⟨rfl,by rw [ha.key,jB,decide_eq_true rfl]⟩]
 have h1:=ha.next
 rw [nm1 h1 hs,aO]
 have h2:=h1.next
 rw [ks1 h2,ks0,aO]
 have h3:=h2.next
 rw [nm1 h3 hx,aO]
 have h4:=h3.next
 rw [aWC h4]
 have h5:=h4.next
 rw [Gp.fin ha' hn h5 (by rw [jB]; decide) (by rw [jB]; decide) (by rw [jB]; decide) (by omega),aO]
 have h6:=h5.app
 rw [ks1 h6,ks0,aO]
 have h7:=h6.next
 rw [aWC h7]
 have h8:=h7.next
 rw [Mp.fin hb hn h8 hz.g hz.c hz.cs (by omega),aO]
 exact aHE (by simp only [List.length_cons,List.length_append] <;> omega)
theorem bHY (hs:jG s=true):Gp (.node 51 0 s [] []) [(1,s)]:=fun l i n R _ ha _ _ hf=>by
 simp only [List.length_cons,List.length_nil] at hf
 simp only [List.cons_append,List.nil_append] at ha
 obtain ⟨n,rfl⟩:∃ q,n=q+2:=⟨n - 2,by omega⟩
 refine ⟨n+1,by simp,?_⟩
 rw [sK,aGi,ha.key,kW1,if_neg (by simp),nm1 ha hs,aO,aO]
 rfl
theorem bGT {L:List TW} (hL:∀ a∈L,Sq a.1 a.2∧Hd aS9 a.2):Gp (.node 50 0 [] [] (L.map Prod.fst)) ((3,kSg) :: (flW L++[(3,aHd)])):=fun l i n R hn ha _ _ hf=>by
 simp only [List.length_cons,List.length_append,List.length_nil] at hf
 simp only [List.cons_append,List.append_assoc,List.nil_append] at ha
 obtain ⟨n,rfl⟩:∃ q,n=q+2:=⟨n - 2,by omega⟩
 refine ⟨n+1,by simp,?_⟩
 rw [sK,aGi,ha.key,jB,decide_eq_true rfl,if_pos rfl]
 have h1:=ha.next
 have hz:Z ((3,aHd) :: R):=bC6 R (by decide)
 rw [bEk L hL l _ n _ [] hn h1 hz (fun u hu=>by rw [jB]; exact decide_eq_false (by revert u; decide)) (by omega),aO,ks1 h1.app,ks0,aO,aO]
 simp only [List.nil_append]
 congr 1
 simp only [List.length_cons,List.length_append,List.length_nil]; omega
theorem bHf (ha':Gp a wa) (hs:lgS s=true) (hb:Pa0 b wb):Gp (.node 52 0 s [] [a,b]) (wa++(3,aE1) :: (3,fR) :: (1,s) :: (3,[61]) :: wb):=fun l i n R hn ha hm hq hf=>by
 simp only [List.length_cons,List.length_append] at hf
 simp only [List.cons_append,List.append_assoc] at ha
 obtain ⟨m,h1,h2⟩:=ha' l i n _ hn ha (by rw [jB]; decide) (by rw [jB]; decide) (by omega)
 obtain ⟨m,rfl⟩:∃ q,m=q+1:=⟨m - 1,by omega⟩
 have g0:=ha.app
 have g1:=g0.next
 have g2:=g1.next
 have g3:=g2.next
 have g4:=g3.next
 refine ⟨m,by simp only [List.length_cons,List.length_append]; omega,?_⟩
 rw [h2,aGv,g0.key,jB,decide_eq_true rfl,if_pos rfl,ks1 g1,ks0,aO,lg1 g2 hs,aO,ks1 g3,ks0,aO,ty1 hb g4 hm hq,aO]
 congr 1
 simp only [List.length_cons,List.length_append]; omega
theorem aWq {t:Tr} {w:List Wd} (h:∀ (l:List aF) (i n:Nat) (R:List Wd),Nk l→At l i (w++R)→Zg R→4 * w.length+1≤n→aDN l n i=(t,i+w.length,0)):Mp t w:=fun l i n R hn ha hz hf=>by
 obtain ⟨n,rfl⟩:∃ q,n=q+1:=⟨n - 1,by omega⟩
 exact ⟨n,by omega,by rw [aAw,h l i n R hn ha hz (by omega),aO]⟩
theorem bFo (hs:lgS s=true):Mp (.node 41 0 s [] []) [(1,s)]:=aWq fun l i n R _ ha hz hf=>by
 simp only [List.length_cons,List.length_nil] at hf
 simp only [List.cons_append,List.nil_append] at ha
 obtain ⟨n,rfl⟩:∃ q,n=q+1:=⟨n - 1,by omega⟩
 rw [aDN,ha.key,kW1,if_neg (by simp),ha.key,kW1,if_neg (by simp),if_neg (fun h=>absurd h.2 (by rw [ha.next.key,hz.p]; simp)),lg1 ha hs,aO]
 rfl
theorem bIz (hs:jG s=true) (ha':Mp a wa):Mp (.node 42 0 s [] [a]) ((1,s) :: (3,[40]) :: (wa++[(3,[41])])):=aWq fun l i n R hn ha _ hf=>by
 simp only [List.length_cons,List.length_append,List.length_nil] at hf
 simp only [List.cons_append,List.append_assoc,List.nil_append] at ha
 obtain ⟨n,rfl⟩:∃ q,n=q+1:=⟨n - 1,by omega⟩
 have h1:=ha.next
 have h2:=h1.next
 have e:nW ((1,s) :: (3,[40]) :: (wa++(3,[41]) :: R))=(s,true):=if_pos (c:=(1:Int)=1∧jG s=true) ⟨rfl,hs⟩
 rw [aDN,ha.key,kW1,if_neg (by simp),ha.key,kW1,if_neg (by simp),if_pos ⟨by rw [ha.name,e],by rw [h1.key,jB,decide_eq_true rfl]⟩,ha.name,e]
 rw [Mp.fin ha' hn h2 (aW3 _ (by decide)) (by rw [jB]; decide) (by rw [jB]; decide) (by omega),aO,ks1 h2.app,ks0,aO]
 exact aHE (by simp only [List.length_cons,List.length_append,List.length_nil] <;> omega)
theorem bEF {L:List TW} (hL:∀ a∈L,Dq false a.1 a.2∧Hd (aII false) a.2):Mp (.node 40 0 [] [] (L.map Prod.fst)) ((3,aLC) :: (flW L++[(3,aHd)])):=aWq fun l i n R hn ha _ hf=>by
 simp only [List.length_cons,List.length_append,List.length_nil] at hf
 simp only [List.cons_append,List.append_assoc,List.nil_append] at ha
 obtain ⟨n,rfl⟩:∃ q,n=q+1:=⟨n - 1,by omega⟩
 rw [aDN,ha.key,jB,decide_eq_true rfl,if_pos rfl]
 have h1:=ha.next
 have hz:Z ((3,aHd) :: R):=bC6 R (by decide)
 rw [aZq L hL l _ n _ [] hn h1 hz (fun u hu=>by rw [jB]; exact decide_eq_false (by revert u; decide)) (by omega),aO,ks1 h1.app,ks0,aO]
 simp only [List.nil_append]
 exact aHE (by simp only [List.length_cons,List.length_append,List.length_nil] <;> omega)
theorem bJg {n:Int} (hn':n=0∨n=1) (ha':Mp a wa) (hb:Gp b wb):Mp (.node 43 n [] [] [a,b]) (wa++(3,if n=1 then [58,62] else [58]) :: wb):=fun l i k R hn ha hz hf=>by
 simp only [List.length_cons,List.length_append] at hf
 simp only [List.cons_append,List.append_assoc] at ha
 rcases hn' with rfl | rfl
 ·rw [if_neg (by decide)] at ha ⊢
  obtain ⟨m,h1,h2⟩:=ha' l i k _ hn ha (aW3 _ (by decide)) (by omega)
  obtain ⟨m,rfl⟩:∃ q,m=q+1:=⟨m - 1,by omega⟩
  have g0:=ha.app
  refine ⟨m,by simp only [List.length_cons,List.length_append]; omega,?_⟩
  rw [h2,aD6,g0.key,jB,decide_eq_true rfl,if_pos rfl,Gp.fin hb hn g0.next hz.m hz.a hz.w (by omega),aO]
  congr 1
  simp only [List.length_cons,List.length_append]; omega
 ·rw [if_pos rfl] at ha ⊢
  obtain ⟨m,h1,h2⟩:=ha' l i k _ hn ha (aW3 _ (by decide)) (by omega)
  obtain ⟨m,rfl⟩:∃ q,m=q+1:=⟨m - 1,by omega⟩
  have g0:=ha.app
  refine ⟨m,by simp only [List.length_cons,List.length_append]; omega,?_⟩
  rw [h2,aD6,g0.key,jB,if_neg (by decide),g0.key,jB,decide_eq_true rfl,if_pos rfl,Gp.fin hb hn g0.next hz.m hz.a hz.w (by omega),aO]
  congr 1
  simp only [List.length_cons,List.length_append]; omega
end
end Go.Proofs.YtjhfgiieicloeaaGreatDoor

/- Every module, signature, specification, declaration of a form has words: they are written, and parsed. Printed by gen9/p2.py. -/
namespace Go.Proofs.YtjhfgiieicloeaaGreatDoor
open Go Go.Am Go.Sx
theorem eI (x:Wd):jn [x]=x.2:=by simp [jn,jt]
theorem bDo {w:List Wd} (h:w≠[]) (ht:∀ x∈w,Tk x):jn w≠[]:=by
 cases w with
 | nil=>exact absurd rfl h
 | cons x r =>
  intro e
  have h1:=(ht x List.mem_cons_self).1
  rw [aEk] at e
  exact h1 (List.append_eq_nil_iff.1 e).1
theorem bAY:∀ Ls:List (List Wd),(∀ v∈Ls,∀ x∈v,Tk x)→jt Ls.flatten=Lib.joinTail [32] ((Ls.map jn).filter ne)
 | [],_=>rfl
 | w :: Ls,h=>by
  have ih:=bAY Ls fun v hv=>h v (List.mem_cons_of_mem _ hv)
  rw [List.flatten_cons,aAv,List.map_cons,ih]
  by_cases hw:w=[]
  ·subst hw; rfl
  ·rw [aQj (bDo hw (h w List.mem_cons_self)),aFt,sF hw]; simp
theorem aSg:∀ Ls:List (List Wd),(∀ v∈Ls,∀ x∈v,Tk x)→jn Ls.flatten=jf (Ls.map jn)
 | [],_=>rfl
 | w :: Ls,h=>by
  have hr:∀ v∈Ls,∀ x∈v,Tk x:=fun v hv=>h v (List.mem_cons_of_mem _ hv)
  rw [List.flatten_cons,List.map_cons]
  by_cases hw:w=[]
  ·subst hw
   rw [List.nil_append,aSg Ls hr]; rfl
  ·rw [aK3 hw,bAY Ls hr,bFJ (bDo hw (h w List.mem_cons_self))]
theorem Ev.eq {α:Type} {f:Nat→Option α} {a b:α} (h:Ev f a) (e:a=b):Ev f b:=e ▸ h
structure Wq (f:Nat→Tr→Option (List UInt8)) (t:Tr) (w:List Wd):Prop where
 ne:w≠[]
 tk:∀ x∈w,Tk x
 pr:Ev (fun K=>f K t) (jn w)
 len:(jn w).length+1≤400 * t.w
theorem vK {f:Nat→Tr→Option (List UInt8)} {t:Tr} {w:List Wd} (Ls:List (List Wd)) (e:Ls.flatten=w) (hk:∀ v∈Ls,∀ x∈v,Tk x) (hne:w≠[]) (pr:Ev (fun K=>f K t) (jf (Ls.map jn))) (len:lw (Ls.map jn)+1≤400 * t.w):Wq f t w:=by
 subst e
 have h:=aSg Ls hk
 have h2:=aVt (Ls.map jn)
 refine ⟨hne,fun x hx=>?_,by rw [h]; exact pr,by rw [h]; omega⟩
 obtain ⟨v,hv,hx⟩:=List.mem_flatten.1 hx
 exact hk v hv x hx
def aPu:List (List UInt8):=[yI,fR,mU,aAj,aAC,aA6,aAY,aJK,aJJ,aLC,kSg,aHd,aE1]
theorem aF5 {s:List UInt8} (h:s∈aPu):Tk (3,s):=by
 have h1:∀ u∈aPu,u∈aOe:=by decide
 have h2:∀ u∈aPu,u≠[]:=by decide
 have h3:∀ u∈aPu,∀ b∈u,97≤b.toNat∧b.toNat<123:=by decide
 have h4:∀ u∈aPu,u.length≤100:=by decide
 exact aNH (h1 s h) (h2 s h) (h3 s h) (h4 s h)
theorem bJ5:Tk (3,[58,62]):=aXg (b:=58) (w:=[62]) (by decide) (by decide) (by decide) fun tail ht=>by
 rcases ht with rfl | ⟨t,rfl⟩
 ·exact ⟨rfl,rfl⟩
 ·exact ⟨rfl,rfl⟩
theorem bI4 {y:Tr} (h:Sm y) (hi:isT 1 y=true):∃ w,Bk y w∧Ev (fun K=>jO K y) (jn w):=by
 obtain ⟨hg,hw,hs,hd⟩:=h
 obtain ⟨w,b⟩:=(bDF y hw).1 hi
 have hf:aUN y:=⟨by omega,fun _=>hg⟩
 have h0:chk 1 y=0:=by rw [aP6 (aPQ y hg) hs hd,if_pos hi]
 have v0:=b.wr 0
 rw [bA8,bBd] at v0
 have e:Ev (fun K=>aAI K y) (jn w,0):=Ev.congr (f:=fun K=>_) (Ev.bind (bAE hf) (Ev.nF h0 (Ev.bind v0 (Ev.pure' rfl)))) (fun _=>rfl)
 exact ⟨w,b,Ev.congr (f:=fun K=>_) (Ev.bind e Ev.pure) (fun k=>by rw [jO])⟩
theorem bJ7 {y:Tr} (h:Sm y) (hi:isT 2 y=true):∃ w,Bx y w∧Ev (fun K=>tL K y) (jn w)∧(jn w).length+8≤200 * y.w:=by
 obtain ⟨hg,hw,hs,hd⟩:=h
 obtain ⟨l1,l2⟩:=(bHC y).1 hi
 obtain ⟨w,b⟩:=(bHb y hg hw hs hd (by omega)).1 hi
 have hf:aUN y:=⟨by omega,fun _=>hg⟩
 have h0:chk 2 y=0:=by rw [aP6 (aPQ y hg) hs hd,if_pos hi]
 have e:Ev (fun K=>aGf K y) (jn w,0):=Ev.congr (f:=fun K=>_) (Ev.bind (bEN hf) (Ev.nF h0 (Ev.bind b.pw.zero (Ev.pure' rfl)))) (fun _=>rfl)
 have:=b.len
 exact ⟨w,b,Ev.congr (f:=fun K=>_) (Ev.bind e Ev.pure) (fun k=>by rw [tL]),by omega⟩
theorem aWe {f:Nat→Tr→Option (List UInt8)} {p:Tr→List Wd→Prop}:∀ r:List Tr,(∀ y∈r,∃ w,Wq f y w∧p y w)→∃ L:List TW,r=L.map Prod.fst∧∀ a∈L,Wq f a.1 a.2∧p a.1 a.2
 | [],_=>⟨[],rfl,fun a h=>by cases h⟩
 | y :: r,h=>by
  obtain ⟨L,rfl,hL⟩:=aWe r fun z hz=>h z (List.mem_cons_of_mem _ hz)
  obtain ⟨v,hv⟩:=h y List.mem_cons_self
  refine ⟨(y,v) :: L,rfl,fun a ha=>?_⟩
  rcases List.mem_cons.1 ha with rfl | ha
  ·exact hv
  ·exact hL a ha
def toX (a:TW):TX:=(a.1,jn a.2)
theorem aWz (L:List TW):(L.map toX).map Prod.fst=L.map Prod.fst:=by rw [List.map_map]; rfl
theorem aOc (L:List TW):(L.map toX).map Prod.snd=(L.map Prod.snd).map jn:=by rw [List.map_map,List.map_map]; rfl
theorem aOU {f:Nat→Tr→Option (List UInt8)}:∀ L:List TW,(∀ a∈L,Wq f a.1 a.2)→lw ((L.map Prod.snd).map jn)≤400 * wL (L.map Prod.fst)
 | [],_=>by simp [lw]
 | a :: L,h=>by
  have h1:=(h a List.mem_cons_self).len
  have h2:=aOU L fun x hx=>h x (List.mem_cons_of_mem _ hx)
  simp only [List.map_cons,lw,aC]
  omega
theorem aW1 {f:Nat→Tr→Option (List UInt8)} {L:List TW} (h:∀ a∈L,Wq f a.1 a.2):∀ v∈L.map Prod.snd,∀ x∈v,Tk x:=fun v hv=>by
 obtain ⟨a,ha,rfl⟩:=List.mem_map.1 hv
 exact (h a ha).tk
theorem bEe:∀ (l:List Tr),(∀ y∈l,isT 8 y=true)→(∀ y∈l,Sm y)→∃ L:List CW,l=L.map cTr∧∀ a∈L,CB a∧Ev (fun K=>jO K a.2.1) (jn a.2.2)∧Sm a.2.1
 | [],_,_=>⟨[],rfl,fun a h=>by cases h⟩
 | x :: l,h,hs=>by
  obtain ⟨L,rfl,hL⟩:=bEe l (fun z hz=>h z (List.mem_cons_of_mem _ hz)) fun z hz=>hs z (List.mem_cons_of_mem _ hz)
  obtain ⟨c,t,rfl,hc,ht⟩:=bHL (h x List.mem_cons_self)
  have st:=(hs _ List.mem_cons_self).kid (y:=t) (by simp)
  obtain ⟨v,hb,hv⟩:=bI4 st ht
  refine ⟨(c,t,v) :: L,rfl,fun a ha=>?_⟩
  rcases List.mem_cons.1 ha with rfl | ha
  ·exact ⟨⟨hc,hb⟩,hv,st⟩
  ·exact hL a ha
def toN (a:CW):CN:=(a.1,a.2.1,jn a.2.2)
theorem bGi {s:List UInt8} (h:jG s=true):s≠[]:=by rintro rfl; exact absurd h (by decide +kernel)
theorem bH3 {a:CW} (h:CB a):cnX (toN a)=cT a:=by
 have h2:jn a.2.2≠[]:=bDo h.2.ne (fun x hx=>(h.2.gd x hx).tk)
 show jf [a.1,[111,102],jn a.2.2]=a.1++[32,111,102,32]++jn a.2.2
 rw [bFJ (bGi h.1),aQj (by simp),aQj h2,aFt,aFt]
 simp [Lib.joinTail]
theorem bGu {n:Int} {nm mk:List UInt8} {ks:List Tr} (hs:∀ y∈ks,Sm y) (hw:wL ks≤1048576) (h:jG nm=true) (hk:rG (isT 8) [] ks=true) (h0:ks≠[]) :
  ∃ w,aM0 ks w∧(ks.map nameOf).Nodup∧Wq eH (.node 62 n nm mk ks) ((3,mU) :: (1,nm) :: (3,[61]) :: w)∧Wq bY (.node 72 n nm mk ks) ((3,mU) :: (1,nm) :: (3,[61]) :: w):=by
 obtain ⟨hall,hnd⟩:=aIp ks [] hk
 obtain ⟨L,rfl,hL⟩:=bEe ks (fun y hy=>(hall y hy).1) hs
 have hB:∀ x∈L,CB x:=fun x hx=>(hL x hx).1
 have hn:=lF h
 have hl:=aGJ (L.map cTr)
 rw [List.length_map] at hl
 cases L with
 | nil=>exact absurd rfl h0
 | cons c r =>
  have hlen:=bEf c r hB
  have hjj:=bAy c r hB
  have e1:((c :: r).map toN).map cnT=(c :: r).map cTr:=by rw [List.map_map]; rfl
  have e2:aVf ((c :: r).map toN)=jn (csW (c :: r)):=by
   unfold aVf
   rw [List.map_map,hjj]
   congr 1
   exact List.map_congr_left fun a ha=>bH3 (hB a ha)
  have ok:∀ a∈(c :: r).map toN,bE2 a:=fun a ha=>by
   obtain ⟨b,hb,rfl⟩:=List.mem_map.1 ha
   obtain ⟨⟨q1,q2⟩,q3,q4⟩:=hL b hb
   have:=lF q1
   have:=q2.len
   have:=q4.w
   exact ⟨show b.1.length≤1000 by omega,show (jn b.2.2).length≤109951162777 by omega,q3⟩
  have l2:((c :: r).map toN).length≤1048576:=by rw [List.length_map]; omega
  have l3:(aVf ((c :: r).map toN)).length≤109951162777:=by rw [e2]; omega
  have p1:=bIr (n:=n) (nm:=nm) (mk:=mk) (by omega) ok l2 l3
  have p2:=bIp (n:=n) (nm:=nm) (mk:=mk) (by omega) ok l2 l3
  rw [e1,e2] at p1 p2
  have hk2:∀ v∈[[(3,mU)],[(1,nm)],[(3,[61])],csW (c :: r)],∀ x∈v,Tk x:=List.forall_mem_cons.2 ⟨bD (aF5 (by decide)),List.forall_mem_cons.2 ⟨bD (aAP h),List.forall_mem_cons.2 ⟨bD (sL (by decide)),List.forall_mem_cons.2 ⟨fun x hx=>(bDy _ hB x hx).tk,fun _ h=>nomatch h⟩⟩⟩⟩
  have len:lw (([[(3,mU)],[(1,nm)],[(3,[61])],csW (c :: r)]:List (List Wd)).map jn)+1≤400 * (1+wL ((c :: r).map cTr)):=by
   simp only [List.map_cons,List.map_nil,eI,lw,List.length_cons,List.length_nil] at hlen ⊢
   omega
  refine ⟨csW (c :: r),aT5 c r hB,hnd,vK [[(3,mU)],[(1,nm)],[(3,[61])],csW (c :: r)] (by simp) hk2 (by simp) (Ev.eq p1 (by simp only [List.map_cons,List.map_nil,eI])) (by rw [aH]; exact len),vK [[(3,mU)],[(1,nm)],[(3,[61])],csW (c :: r)] (by simp) hk2 (by simp) (Ev.eq p2 (by simp only [List.map_cons,List.map_nil,eI])) (by rw [aH]; exact len)⟩
abbrev BM (t:Tr):Prop:=∃ w,Wq iF t w∧Mp t w
abbrev BG (t:Tr):Prop:=∃ w,Wq fJ t w∧Gp t w
abbrev BS (t:Tr):Prop:=∃ w,Wq eH t w∧Sq t w∧Hd aS9 w
abbrev BD (top:Bool) (t:Tr):Prop:=∃ w,Wq bY t w∧Dq top t w∧Hd (aII top) w
theorem bHZ:∀ t:Tr,Sm t→(isT 3 t=true→BM t)∧(isT 4 t=true→BG t)∧(isT 5 t=true→BS t)∧(∀ top,isT 6 t=true→(top=false→kindOf t≠74∧kindOf t≠75)→BD top t):=Tr.ind
 (fun h=>by cases h.g)
 fun k n nm mk ks ih hs=>by
  have hw:=hs.w
  rw [aH] at hw
  have sub:∀ y∈ks,Sm y:=fun y hy=>hs.kid hy
  have ty:∀ y∈ks,isT 1 y=true→∃ w,Bk y w∧Ev (fun K=>jO K y) (jn w):=fun y hy=>bI4 (sub y hy)
  have ex:∀ y∈ks,isT 2 y=true→∃ w,Bx y w∧Ev (fun K=>tL K y) (jn w)∧(jn w).length+8≤200 * y.w:=fun y hy=>bJ7 (sub y hy)
  have mo:∀ y∈ks,isT 3 y=true→BM y:=fun y hy=>(ih y hy (sub y hy)).1
  have si:∀ y∈ks,isT 4 y=true→BG y:=fun y hy=>(ih y hy (sub y hy)).2.1
  have sp:∀ y∈ks,isT 5 y=true→BS y:=fun y hy=>(ih y hy (sub y hy)).2.2.1
  have de:∀ y∈ks,isT 6 y=true∧kindOf y≠74∧kindOf y≠75→BD false y:=fun y hy h=>(ih y hy (sub y hy)).2.2.2 false h.1 fun _=>h.2
  clear ih hs
  refine ⟨fun hi=>?_,fun hi=>?_,fun hi=>?_,fun top hi ht=>?_⟩
  ·cases bJl hi with
   | strc ks hk =>
    obtain ⟨L,rfl,hL⟩:=aWe ks (fun y hy=>de y hy (hk y hy))
    have hq:=fun a ha=>(hL a ha).1
    have hl:=aOU L hq
    have hj:=aVt ((L.map Prod.snd).map jn)
    have hf:=aSg (L.map Prod.snd) (aW1 hq)
    have p:=bE4 (n:=0) (nm:=[]) (mk:=[]) (L:=L.map toX) (fun a ha=>by
     obtain ⟨b,hb,rfl⟩:=List.mem_map.1 ha
     exact (hq b hb).pr) (by rw [aOc]; omega)
    rw [aWz,aOc,← hf] at p
    refine ⟨_,vK [[(3,aLC)],flW L,[(3,aHd)]] (by simp <;> rfl) (List.forall_mem_cons.2 ⟨bD (aF5 (by decide)),List.forall_mem_cons.2 ⟨fun x hx=>?_,List.forall_mem_cons.2 ⟨bD (aF5 (by decide)),fun _ h=>nomatch h⟩⟩⟩) (by simp) (Ev.eq p (by simp only [List.map_cons,List.map_nil,eI] <;> rfl)) ?_,bEF fun a ha=>(hL a ha).2⟩
    ·obtain ⟨v,hv,hx⟩:=List.mem_flatten.1 hx
     exact aW1 hq v hv x hx
    ·rw [← hf] at hj
     simp only [List.map_cons,List.map_nil,eI,lw,List.length_cons,List.length_nil,aH]
     show 6+1+((jn (L.map Prod.snd).flatten).length+1+_)+1≤_
     omega
   | path s h =>
    have ls:=aH1 h
    exact ⟨_,vK [[(1,nm)]] rfl (List.forall_mem_cons.2 ⟨bD (aCN (aC3 h)),fun _ h=>nomatch h⟩) (by simp) (Ev.eq bE3 (by
     have h0:nm≠[]:=by rintro rfl; exact absurd h (by decide +kernel)
     simp only [List.map_cons,List.map_nil,eI]
     rw [bFJ h0]; simp [Lib.joinTail])) (by simp only [List.map_cons,List.map_nil,eI,lw,aH,aK]; omega),bFo h⟩
   | app s a h ha =>
    obtain ⟨wa,a9,a0⟩:=mo a (by simp) ha
    have a1:=a9.pr
    have a2:=a9.len
    have ak:=a9.tk
    rw [aC,aK] at hw
    have lnm:=lF h
    exact ⟨_,vK [[(1,nm)],[(3,[40])],wa,[(3,[41])]] (by simp <;> rfl) (List.forall_mem_cons.2 ⟨bD (aAP h),List.forall_mem_cons.2 ⟨bD (sL (by decide)),List.forall_mem_cons.2 ⟨ak,List.forall_mem_cons.2 ⟨bD (sL (by decide)),fun _ h=>nomatch h⟩⟩⟩⟩) (by simp) (Ev.eq (bHd (by omega) a1 (by omega)) (by simp only [List.map_cons,List.map_nil,eI] <;> rfl)) (by simp only [List.map_cons,List.map_nil,eI,lw,List.length_cons,List.length_nil,aH,aC,aK]; omega),bIz h a0⟩
   | sl n a b hn ha hb =>
    obtain ⟨wa,a9,a0⟩:=mo a (by simp) ha
    have a1:=a9.pr
    have a2:=a9.len
    obtain ⟨wb,b9,b0⟩:=si b (by simp) hb
    have b1:=b9.pr
    have b2:=b9.len
    rw [aC,aC,aK] at hw
    have tg:∀ n:Int,Tk (3,if n=1 then [58,62] else [58]):=fun n=>by
     split
     ·exact bJ5
     ·exact sL (by decide)
    have lg:(if n=1 then ([58,62]:List UInt8) else [58]).length≤2:=by split <;> decide
    exact ⟨_,vK [wa,[(3,if n=1 then [58,62] else [58])],wb] (by simp <;> rfl) (List.forall_mem_cons.2 ⟨a9.tk,List.forall_mem_cons.2 ⟨bD (tg n),List.forall_mem_cons.2 ⟨b9.tk,fun _ h=>nomatch h⟩⟩⟩) (by simp) (Ev.eq (bJw a1 (by omega) b1 (by omega)) (by simp only [List.map_cons,List.map_nil,eI] <;> rfl)) (by simp only [List.map_cons,List.map_nil,eI,lw,aH,aC,aK]; omega),bJg hn a0 b0⟩
  ·cases bI3 hi with
   | bod ks hk =>
    obtain ⟨L,rfl,hL⟩:=aWe ks (fun y hy=>sp y hy (hk y hy))
    have hq:=fun a ha=>(hL a ha).1
    have hl:=aOU L hq
    have hj:=aVt ((L.map Prod.snd).map jn)
    have hf:=aSg (L.map Prod.snd) (aW1 hq)
    have p:=bGY (n:=0) (nm:=[]) (mk:=[]) (L:=L.map toX) (fun a ha=>by
     obtain ⟨b,hb,rfl⟩:=List.mem_map.1 ha
     exact (hq b hb).pr) (by rw [aOc]; omega)
    rw [aWz,aOc,← hf] at p
    refine ⟨_,vK [[(3,kSg)],flW L,[(3,aHd)]] (by simp <;> rfl) (List.forall_mem_cons.2 ⟨bD (aF5 (by decide)),List.forall_mem_cons.2 ⟨fun x hx=>?_,List.forall_mem_cons.2 ⟨bD (aF5 (by decide)),fun _ h=>nomatch h⟩⟩⟩) (by simp) (Ev.eq p (by simp only [List.map_cons,List.map_nil,eI] <;> rfl)) ?_,bGT fun a ha=>(hL a ha).2⟩
    ·obtain ⟨v,hv,hx⟩:=List.mem_flatten.1 hx
     exact aW1 hq v hv x hx
    ·rw [← hf] at hj
     simp only [List.map_cons,List.map_nil,eI,lw,List.length_cons,List.length_nil,aH]
     show 3+1+((jn (L.map Prod.snd).flatten).length+1+_)+1≤_
     omega
   | nam s h =>
    have ls:=lF h
    exact ⟨_,vK [[(1,nm)]] rfl (List.forall_mem_cons.2 ⟨bD (aAP h),fun _ h=>nomatch h⟩) (by simp) (Ev.eq bG2 (by
     simp only [List.map_cons,List.map_nil,eI]
     rw [bFJ (bGi h)]; simp [Lib.joinTail])) (by simp only [List.map_cons,List.map_nil,eI,lw,aH,aK]; omega),bHY h⟩
   | whr s a b h ha hb =>
    obtain ⟨wa,a9,a0⟩:=si a (by simp) ha
    have a1:=a9.pr
    have a2:=a9.len
    have ak:=a9.tk
    obtain ⟨wb,b0,b1⟩:=ty b (by simp) hb
    have b2:=b0.len
    have bk:∀ x∈wb,Tk x:=fun x hx=>(b0.gd x hx).tk
    rw [aC,aC,aK] at hw
    have lnm:=aH1 h
    have e2:(jn [(3,aE1),(3,fR)]).length≤12:=by decide
    exact ⟨_,vK [wa,[(3,aE1),(3,fR)],[(1,nm)],[(3,[61])],wb] (by simp <;> rfl) (List.forall_mem_cons.2 ⟨ak,List.forall_mem_cons.2 ⟨mem_cons (aF5 (by decide)) (bD (aF5 (by decide))),List.forall_mem_cons.2 ⟨bD (aCN (aC3 h)),List.forall_mem_cons.2 ⟨bD (sL (by decide)),List.forall_mem_cons.2 ⟨bk,fun _ h=>nomatch h⟩⟩⟩⟩⟩) (by intro e; exact a9.ne (List.append_eq_nil_iff.1 e).1) (Ev.eq (bHa (by omega) a1 (by omega) b1 (by omega)) (by simp only [List.map_cons,List.map_nil,eI] <;> rfl)) (by simp only [List.map_cons,List.map_nil,eI,lw,List.length_cons,List.length_nil,aH,aC,aK]; omega),bHf a0 h b0.p0⟩
  ·cases bIU hi with
   | val s a h ha =>
    obtain ⟨wa,a0,a1⟩:=ty a (by simp) ha
    have a2:=a0.len
    have ak:∀ x∈wa,Tk x:=fun x hx=>(a0.gd x hx).tk
    rw [aC,aK] at hw
    have lnm:=lF h
    exact ⟨_,vK [[(3,yI)],[(1,nm)],[(3,[58])],wa] (by simp <;> rfl) (List.forall_mem_cons.2 ⟨bD (aF5 (by decide)),List.forall_mem_cons.2 ⟨bD (aAP h),List.forall_mem_cons.2 ⟨bD (sL (by decide)),List.forall_mem_cons.2 ⟨ak,fun _ h=>nomatch h⟩⟩⟩⟩) (by simp) (Ev.eq (bIc (by omega) a1 (by omega)) (by simp only [List.map_cons,List.map_nil,eI] <;> rfl)) (by simp only [List.map_cons,List.map_nil,eI,lw,List.length_cons,List.length_nil,aH,aC,aK]; omega),bIy h a0.p0,⟨_,_,rfl,(by decide)⟩⟩
   | ty1 s a h ha =>
    obtain ⟨wa,a0,a1⟩:=ty a (by simp) ha
    have a2:=a0.len
    have ak:∀ x∈wa,Tk x:=fun x hx=>(a0.gd x hx).tk
    rw [aC,aK] at hw
    have lnm:=lF h
    exact ⟨_,vK [[(3,fR)],[(1,nm)],[(3,[61])],wa] (by simp <;> rfl) (List.forall_mem_cons.2 ⟨bD (aF5 (by decide)),List.forall_mem_cons.2 ⟨bD (aAP h),List.forall_mem_cons.2 ⟨bD (sL (by decide)),List.forall_mem_cons.2 ⟨ak,fun _ h=>nomatch h⟩⟩⟩⟩) (by simp) (Ev.eq (bIm (by omega) a1 (by omega)) (by simp only [List.map_cons,List.map_nil,eI] <;> rfl)) (by simp only [List.map_cons,List.map_nil,eI,lw,List.length_cons,List.length_nil,aH,aC,aK]; omega),bHh h a0.p0,⟨_,_,rfl,(by decide)⟩⟩
   | ty0 s h =>
    have lnm:=lF h
    exact ⟨_,vK [[(3,fR)],[(1,nm)]] (by simp <;> rfl) (List.forall_mem_cons.2 ⟨bD (aF5 (by decide)),List.forall_mem_cons.2 ⟨bD (aAP h),fun _ h=>nomatch h⟩⟩) (by simp) (Ev.eq (bHF (by omega)) (by simp only [List.map_cons,List.map_nil,eI] <;> rfl)) (by simp only [List.map_cons,List.map_nil,eI,lw,List.length_cons,List.length_nil,aH,aK]; omega),bHk h,⟨_,_,rfl,(by decide)⟩⟩
   | dat s ks h hk h0 =>
    obtain ⟨w,h1,h2,h3,_⟩:=bGu (n:=0) (mk:=[]) sub (by omega) h hk h0
    exact ⟨_,h3,bGU h h1 h2,⟨_,_,rfl,by decide⟩⟩
   | str s a h ha =>
    obtain ⟨wa,a9,a0⟩:=si a (by simp) ha
    have a1:=a9.pr
    have a2:=a9.len
    have ak:=a9.tk
    rw [aC,aK] at hw
    have lnm:=lF h
    exact ⟨_,vK [[(3,aAj)],[(1,nm)],[(3,[58])],wa] (by simp <;> rfl) (List.forall_mem_cons.2 ⟨bD (aF5 (by decide)),List.forall_mem_cons.2 ⟨bD (aAP h),List.forall_mem_cons.2 ⟨bD (sL (by decide)),List.forall_mem_cons.2 ⟨ak,fun _ h=>nomatch h⟩⟩⟩⟩) (by simp) (Ev.eq (bG3 (by omega) a1 (by omega)) (by simp only [List.map_cons,List.map_nil,eI] <;> rfl)) (by simp only [List.map_cons,List.map_nil,eI,lw,List.length_cons,List.length_nil,aH,aC,aK]; omega),bHq h a0,⟨_,_,rfl,(by decide)⟩⟩
   | inc a ha =>
    obtain ⟨wa,a9,a0⟩:=si a (by simp) ha
    have a1:=a9.pr
    have a2:=a9.len
    have ak:=a9.tk
    rw [aC,aK] at hw
    exact ⟨_,vK [[(3,aAC)],wa] (by simp <;> rfl) (List.forall_mem_cons.2 ⟨bD (aF5 (by decide)),List.forall_mem_cons.2 ⟨ak,fun _ h=>nomatch h⟩⟩) (by simp) (Ev.eq (bGL a1 (by omega)) (by simp only [List.map_cons,List.map_nil,eI] <;> rfl)) (by simp only [List.map_cons,List.map_nil,eI,lw,List.length_cons,List.length_nil,aH,aC,aK]; omega),bIb a0,⟨_,_,rfl,(by decide)⟩⟩
   | shr s x h hx =>
    have lnm:=aH1 h
    have lmk:=aH1 hx
    have e2:(jn [(3,aA6),(3,fR)]).length≤12:=by decide
    exact ⟨_,vK [[(3,aA6),(3,fR)],[(1,nm)],[(3,[61])],[(1,mk)]] (by simp <;> rfl) (List.forall_mem_cons.2 ⟨mem_cons (aF5 (by decide)) (bD (aF5 (by decide))),List.forall_mem_cons.2 ⟨bD (aCN (aC3 h)),List.forall_mem_cons.2 ⟨bD (sL (by decide)),List.forall_mem_cons.2 ⟨bD (aCN (aC3 hx)),fun _ h=>nomatch h⟩⟩⟩⟩) (by simp) (Ev.eq (bIg (by omega) (by omega)) (by simp only [List.map_cons,List.map_nil,eI] <;> rfl)) (by simp only [List.map_cons,List.map_nil,eI,lw,List.length_cons,List.length_nil,aH,aK]; omega),bG7 h hx,⟨_,_,rfl,(by decide)⟩⟩
  ·cases bJE hi with
   | va1 s a h ha =>
    obtain ⟨wa,a0,a1,a2⟩:=ex a (by simp) ha
    have ak:=a0.tk
    rw [aC,aK] at hw
    have lnm:=lF h
    exact ⟨_,vK [[(3,yI)],[(1,nm)],[(3,[61])],wa] (by simp <;> rfl) (List.forall_mem_cons.2 ⟨bD (aF5 (by decide)),List.forall_mem_cons.2 ⟨bD (aAP h),List.forall_mem_cons.2 ⟨bD (sL (by decide)),List.forall_mem_cons.2 ⟨ak,fun _ h=>nomatch h⟩⟩⟩⟩) (by simp) (Ev.eq (bHS (by omega) a1 (by omega)) (by simp only [List.map_cons,List.map_nil,eI] <;> rfl)) (by simp only [List.map_cons,List.map_nil,eI,lw,List.length_cons,List.length_nil,aH,aC,aK]; omega),bH4 h a0.a0,⟨_,_,rfl,(by cases top <;> decide)⟩⟩
   | va2 s a b h ha hb =>
    obtain ⟨wa,a0,a1⟩:=ty a (by simp) ha
    have a2:=a0.len
    have ak:∀ x∈wa,Tk x:=fun x hx=>(a0.gd x hx).tk
    obtain ⟨wb,b0,b1,b2⟩:=ex b (by simp) hb
    have bk:=b0.tk
    rw [aC,aC,aK] at hw
    have lnm:=lF h
    exact ⟨_,vK [[(3,yI)],[(1,nm)],[(3,[58])],wa,[(3,[61])],wb] (by simp <;> rfl) (List.forall_mem_cons.2 ⟨bD (aF5 (by decide)),List.forall_mem_cons.2 ⟨bD (aAP h),List.forall_mem_cons.2 ⟨bD (sL (by decide)),List.forall_mem_cons.2 ⟨ak,List.forall_mem_cons.2 ⟨bD (sL (by decide)),List.forall_mem_cons.2 ⟨bk,fun _ h=>nomatch h⟩⟩⟩⟩⟩⟩) (by simp) (Ev.eq (bGG (by omega) a1 (by omega) b1 (by omega)) (by simp only [List.map_cons,List.map_nil,eI] <;> rfl)) (by simp only [List.map_cons,List.map_nil,eI,lw,List.length_cons,List.length_nil,aH,aC,aK]; omega),bGK h a0.p0 b0.a0,⟨_,_,rfl,(by cases top <;> decide)⟩⟩
   | ty s a h ha =>
    obtain ⟨wa,a0,a1⟩:=ty a (by simp) ha
    have a2:=a0.len
    have ak:∀ x∈wa,Tk x:=fun x hx=>(a0.gd x hx).tk
    rw [aC,aK] at hw
    have lnm:=lF h
    exact ⟨_,vK [[(3,fR)],[(1,nm)],[(3,[61])],wa] (by simp <;> rfl) (List.forall_mem_cons.2 ⟨bD (aF5 (by decide)),List.forall_mem_cons.2 ⟨bD (aAP h),List.forall_mem_cons.2 ⟨bD (sL (by decide)),List.forall_mem_cons.2 ⟨ak,fun _ h=>nomatch h⟩⟩⟩⟩) (by simp) (Ev.eq (bJb (by omega) a1 (by omega)) (by simp only [List.map_cons,List.map_nil,eI] <;> rfl)) (by simp only [List.map_cons,List.map_nil,eI,lw,List.length_cons,List.length_nil,aH,aC,aK]; omega),bJj h a0.p0,⟨_,_,rfl,(by cases top <;> decide)⟩⟩
   | dat s ks h hk h0 =>
    obtain ⟨w,h1,h2,_,h3⟩:=bGu (n:=0) (mk:=[]) sub (by omega) h hk h0
    exact ⟨_,h3,bIl h h1 h2,⟨_,_,rfl,by cases top <;> decide⟩⟩
   | str s a h ha =>
    obtain ⟨wa,a9,a0⟩:=mo a (by simp) ha
    have a1:=a9.pr
    have a2:=a9.len
    have ak:=a9.tk
    rw [aC,aK] at hw
    have lnm:=lF h
    exact ⟨_,vK [[(3,aAj)],[(1,nm)],[(3,[61])],wa] (by simp <;> rfl) (List.forall_mem_cons.2 ⟨bD (aF5 (by decide)),List.forall_mem_cons.2 ⟨bD (aAP h),List.forall_mem_cons.2 ⟨bD (sL (by decide)),List.forall_mem_cons.2 ⟨ak,fun _ h=>nomatch h⟩⟩⟩⟩) (by simp) (Ev.eq (bGB (by omega) a1 (by omega)) (by simp only [List.map_cons,List.map_nil,eI] <;> rfl)) (by simp only [List.map_cons,List.map_nil,eI,lw,List.length_cons,List.length_nil,aH,aC,aK]; omega),bHI h a0,⟨_,_,rfl,(by cases top <;> decide)⟩⟩
   | sig s a h ha =>
    have et:top=true:=by
     cases top with
     | true=>rfl
     | false=>exact absurd rfl (ht rfl).1
    subst et
    obtain ⟨wa,a9,a0⟩:=si a (by simp) ha
    have a1:=a9.pr
    have a2:=a9.len
    have ak:=a9.tk
    rw [aC,aK] at hw
    have lnm:=lF h
    exact ⟨_,vK [[(3,aJK)],[(1,nm)],[(3,[61])],wa] (by simp <;> rfl) (List.forall_mem_cons.2 ⟨bD (aF5 (by decide)),List.forall_mem_cons.2 ⟨bD (aAP h),List.forall_mem_cons.2 ⟨bD (sL (by decide)),List.forall_mem_cons.2 ⟨ak,fun _ h=>nomatch h⟩⟩⟩⟩) (by simp) (Ev.eq (bG4 (by omega) a1 (by omega)) (by simp only [List.map_cons,List.map_nil,eI] <;> rfl)) (by simp only [List.map_cons,List.map_nil,eI,lw,List.length_cons,List.length_nil,aH,aC,aK]; omega),bHw h a0,⟨_,_,rfl,(by decide)⟩⟩
   | fun_ s x a b h hx ha hb =>
    have et:top=true:=by
     cases top with
     | true=>rfl
     | false=>exact absurd rfl (ht rfl).2
    subst et
    obtain ⟨wa,a9,a0⟩:=si a (by simp) ha
    have a1:=a9.pr
    have a2:=a9.len
    have ak:=a9.tk
    obtain ⟨wb,b9,b0⟩:=mo b (by simp) hb
    have b1:=b9.pr
    have b2:=b9.len
    have bk:=b9.tk
    rw [aC,aC,aK] at hw
    have lnm:=lF h
    have lmk:=lF hx
    exact ⟨_,vK [[(3,aJJ)],[(1,nm)],[(3,[40])],[(1,mk)],[(3,[58])],wa,[(3,[41])],[(3,[61])],wb] (by simp <;> rfl) (List.forall_mem_cons.2 ⟨bD (aF5 (by decide)),List.forall_mem_cons.2 ⟨bD (aAP h),List.forall_mem_cons.2 ⟨bD (sL (by decide)),List.forall_mem_cons.2 ⟨bD (aAP hx),List.forall_mem_cons.2 ⟨bD (sL (by decide)),List.forall_mem_cons.2 ⟨ak,List.forall_mem_cons.2 ⟨bD (sL (by decide)),List.forall_mem_cons.2 ⟨bD (sL (by decide)),List.forall_mem_cons.2 ⟨bk,fun _ h=>nomatch h⟩⟩⟩⟩⟩⟩⟩⟩⟩) (by simp) (Ev.eq (bHJ (by omega) (by omega) a1 (by omega) b1 (by omega)) (by simp only [List.map_cons,List.map_nil,eI] <;> rfl)) (by simp only [List.map_cons,List.map_nil,eI,lw,List.length_cons,List.length_nil,aH,aC,aK]; omega),bId h hx a0 b0,⟨_,_,rfl,(by decide)⟩⟩
   | opn s h =>
    have lnm:=aH1 h
    exact ⟨_,vK [[(3,aAY)],[(1,nm)]] (by simp <;> rfl) (List.forall_mem_cons.2 ⟨bD (aF5 (by decide)),List.forall_mem_cons.2 ⟨bD (aCN (aC3 h)),fun _ h=>nomatch h⟩⟩) (by simp) (Ev.eq (bGW (by omega)) (by simp only [List.map_cons,List.map_nil,eI] <;> rfl)) (by simp only [List.map_cons,List.map_nil,eI,lw,List.length_cons,List.length_nil,aH,aK]; omega),bG9 h,⟨_,_,rfl,(by cases top <;> decide)⟩⟩
   | inc s h =>
    have lnm:=aH1 h
    exact ⟨_,vK [[(3,aAC)],[(1,nm)]] (by simp <;> rfl) (List.forall_mem_cons.2 ⟨bD (aF5 (by decide)),List.forall_mem_cons.2 ⟨bD (aCN (aC3 h)),fun _ h=>nomatch h⟩⟩) (by simp) (Ev.eq (bIt (by omega)) (by simp only [List.map_cons,List.map_nil,eI] <;> rfl)) (by simp only [List.map_cons,List.map_nil,eI,lw,List.length_cons,List.length_nil,aH,aK]; omega),bHc h,⟨_,_,rfl,(by cases top <;> decide)⟩⟩
end Go.Proofs.YtjhfgiieicloeaaGreatDoor

/- A program's text, written and read again. -/
namespace Go.Proofs.YtjhfgiieicloeaaGreatDoor
open Go Go.Am Go.Sx
theorem bGf {w:List Wd} (h:∀ x∈w,Tk x):Rk (jn w):=by
 cases w with
 | nil=>exact .nil
 | cons x r=>exact aLi (h x List.mem_cons_self).2.1 (bCC fun y hy=>h y (List.mem_cons_of_mem _ hy))
theorem bIW {w:List Wd} (hne:w≠[]) (h:∀ x∈w,Tk x) (hl:(jn w).length≤16384):∃ l,lxS (jn w) 0 []=(l,0,0)∧l.map kt=w∧Nk l:=by
 obtain ⟨l,q1,q0,q2⟩:=bGI hne h hl
 rcases aUo hl with ⟨_,a⟩ | ⟨a,_⟩
 ·exact ⟨l,Ev.unique a q2,q1,q0⟩
 ·exact absurd (bGf h) a
theorem bA3:∀ L:List TW,(∀ a∈L,a.2≠[]∧∀ x∈a.2,Tk x)→(prX (L.map toX)).length≤16384→Rk (prX (L.map toX))∧∃ l,lxS (prX (L.map toX)) 0 []=(l,0,0)∧l.map kt=flW L∧Nk l
 | [],_,_=>⟨.nil,[],aGt 0 [],rfl,fun k hk=>by cases hk⟩
 | a :: L,h,hl=>by
  obtain ⟨h1,h2⟩:=h a List.mem_cons_self
  rw [List.map_cons,aTG,List.length_append,List.length_cons] at hl
  have hl1:(jn a.2).length≤16384:=by
   have:(toX a).2=jn a.2:=rfl
   rw [this] at hl
   omega
  obtain ⟨i1,m,i2,i3,i4⟩:=bA3 L (fun x hx=>h x (List.mem_cons_of_mem _ hx)) (by omega)
  obtain ⟨l,q1,q2,q3⟩:=bIW h1 h2 hl1
  rw [List.map_cons,aTG]
  refine ⟨bEZ (bGf h2) i1,l++m.map (shT ((jn a.2).length+1)),bCw q1 i2,?_,?_⟩
  ·rw [List.map_append,List.map_map,q2,aDf,← i3]
   rfl
  ·intro k hk
   rcases List.mem_append.1 hk with hk | hk
   ·exact q3 k hk
   ·obtain ⟨k',hk',rfl⟩:=List.mem_map.1 hk
    exact i4 k' hk'
theorem bG0 {t:Tr} (hf:aUN t) (h0:chk 7 t=0) (hw:t.w≤1048576):∃ s e,Ev (fun K=>aAn K t) (s,e)∧((s=[]∧e=3)∨(e=0∧s.length≤16384∧Ev (fun K=>vJ K s) (t,0,0))):=by
 obtain ⟨hi,h1,h2,h3⟩:=aX0 h0
 have hs:Sm t:=⟨hf.2 h1,hw,h2,h3⟩
 have cP:=bA7 hf
 rw [h0] at cP
 obtain ⟨ks,rfl,hk⟩:=bFK hi
 obtain ⟨L,rfl,hL⟩:=aWe (f:=bY) (p:=fun t w=>Dq true t w∧Hd (aII true) w) ks (fun y hy=>(bHZ y (hs.kid hy)).2.2.2 true (hk y hy) (fun h=>by cases h))
 have hl:=aOU L fun a ha=>(hL a ha).1
 have hn:=aGJ (L.map Prod.fst)
 rw [List.length_map] at hn
 rw [aH] at hw
 have hx:(prX (L.map toX)).length=lw ((L.map Prod.snd).map jn):=by rw [bEv,aOc]
 have pp:=bDd (L:=L.map toX) (fun a ha=>by
  obtain ⟨b,hb,rfl⟩:=List.mem_map.1 ha
  exact (hL b hb).1.pr) (by rw [List.length_map]; omega) (by omega)
 rw [aWz] at pp
 by_cases hb:16384<(prX (L.map toX)).length
 ·refine ⟨[],3,Ev.congr (f:=fun K=>_) ?_ (fun _=>rfl),.inl ⟨rfl,rfl⟩⟩
  exact Ev.bind cP (Ev.iteT rfl (Ev.bind pp (Ev.iteT hb Ev.pure)))
 ·refine ⟨prX (L.map toX),0,Ev.congr (f:=fun K=>_) ?_ (fun _=>rfl),.inr ⟨rfl,by omega,?_⟩⟩
  ·exact Ev.bind cP (Ev.iteT rfl (Ev.bind pp (Ev.iteF hb Ev.pure)))
  ·obtain ⟨r1,l,r2,r3,r4⟩:=bA3 L (fun a ha=>⟨(hL a ha).1.ne,(hL a ha).1.tk⟩) (by omega)
   have hlen:(flW L).length=l.length:=by rw [← r3,List.length_map]
   have src:=bIw (n:=8 * l.length+2) (by omega) r1 r2 (Nat.le_refl _)
   have d:=aZq L (fun a ha=>(hL a ha).2) l 0 (8 * l.length+2) [] [] r4 (by unfold At; rw [List.drop_zero,r3,List.append_nil]) bJD (fun _ _=>rfl) (by omega)
   rw [d] at src
   refine Ev.eq src ?_
   unfold bF2
   simp only [List.nil_append,hlen,Nat.zero_add]
   rw [if_pos ⟨trivial,trivial⟩,if_neg (Nat.not_lt.2 h2),if_neg (Nat.not_lt.2 h3)]
theorem bE8 {t:Tr} (hf:aUN t) (h0:chk 7 t≠0):Ev (fun K=>aAn K t) ([],chk 7 t):=Ev.congr (f:=fun _K=>_) (Ev.bind (bA7 hf) (Ev.iteF h0 Ev.pure)) (fun _=>rfl)
end Go.Proofs.YtjhfgiieicloeaaGreatDoor

