/- Joined texts: N1, V0, V1, X5, X6, X7, N2, V5. -/
import Derived.Test.YtjhfgiieicloeaaGreatDoorGp
import Derived.Test.YtjhfgiieicloeaaGreatDoorGq
import Derived.Test.YtjhfgiieicloeaaGreatDoorGw
/- A number's text: the program's and the document's are the same. -/
namespace Go.Proofs.YtjhfgiieicloeaaGreatDoor
open Go Go.Am Go.Sx
def dgt (d:Nat):UInt8:=UInt8.ofNat (48+d)
def bAw:Nat→Nat→List UInt8
 | 0,_=>[]
 | f+1,n=>if n<10 then [dgt n] else bAw f (n / 10)++[dgt (n % 10)]
def dig (n:Nat):List UInt8:=bAw (n+1) n
theorem bBk:∀ (f g n:Nat),n<f→n<g→bAw f n=bAw g n
 | 0,_,_,h,_=>by omega
 | _+1,0,_,_,h=>by omega
 | f+1,g+1,n,h1,h2=>by
  unfold bAw
  by_cases h:n<10
  ·rw [if_pos h,if_pos h]
  ·rw [if_neg h,if_neg h,bBk f g (n / 10) (by omega) (by omega)]
theorem xN {n:Nat} (h:n<10):dig n=[dgt n]:=by unfold dig bAw; rw [if_pos h]
theorem aPg {n:Nat} (h:¬ n<10):dig n=dig (n / 10)++[dgt (n % 10)]:=by
 rw [dig,bAw,if_neg h,dig,bBk n (n / 10+1) (n / 10) (by omega) (by omega)]
theorem bBf:∀ (b n:Nat),n≤b→(dig n).length≤n+1∧1≤(dig n).length:=by
 intro b
 induction b with
 | zero=>intro n h; rw [xN (by omega)]; simp
 | succ b ih =>
  intro n h
  by_cases h10:n<10
  ·rw [xN h10]; simp
  ·rw [aPg h10]
   have:=ih (n / 10) (by omega)
   simp only [List.length_append,List.length_cons,List.length_nil]
   omega
theorem aWg {n:Nat} (h:n≤1099511627776):(dig n).length≤13:=by
 have gen:∀ (k n:Nat),n<10 ^ (k+1)→(dig n).length≤k+1:=by
  intro k
  induction k with
  | zero=>intro n h; rw [xN (by omega)]; simp
  | succ k ih =>
   intro n h
   by_cases h10:n<10
   ·rw [xN h10]; simp
   ·rw [aPg h10]
    have:=ih (n / 10) (by rw [Nat.pow_succ] at h; omega)
    simp only [List.length_append,List.length_cons,List.length_nil]
    omega
 exact gen 12 n (by omega)
def aA8 (n:Int):List UInt8:=(if n<0 then [126] else [])++dig n.natAbs
theorem aYE {n:Int} (h:n.natAbs≤1099511627776):(aA8 n).length≤14:=by
 have:=aWg h
 unfold aA8
 by_cases h0:n<0
 ·rw [if_pos h0]; simp; omega
 ·rw [if_neg h0]; simp; omega
/-! ### the program's: digits from the last one on, turned round -/
theorem aWA {x:Int} (h1:0≤x) (h2:x≤18446744073709551615):IntKind.u64.wrap x=x:=by
 show (if (false && decide (x % 18446744073709551616 ≥ 9223372036854775808))=true then x % 18446744073709551616 - 18446744073709551616 else x % 18446744073709551616)=x
 simp only [Bool.false_and,Bool.false_eq_true,if_false]
 omega
theorem aZh {x:Int} (h1:x<0) (h2:-18446744073709551616≤x):IntKind.u64.wrap x=x+18446744073709551616:=by
 show (if (false && decide (x % 18446744073709551616 ≥ 9223372036854775808))=true then x % 18446744073709551616 - 18446744073709551616 else x % 18446744073709551616)=_
 simp only [Bool.false_and,Bool.false_eq_true,if_false]
 omega
theorem bHj:∀ (b:Nat) (A M B:List Int),M.length≤b→A.length+M.length+B.length≤1000→Ev (fun K=>eV K (A++M++B) (A.length:Int) ((A.length:Int)+(M.length:Int) - 1)) (A++M.reverse++B):=by
 intro b
 induction b with
 | zero =>
  intro A M B hb hl
  have e:M=[]:=List.length_eq_zero_iff.1 (by omega)
  subst e
  refine Ev.step (fun k=>by rw [eV]) ?_
  exact Ev.dF (by simp; omega) (Ev.pure' (by simp))
 | succ b ih =>
  intro A M B hb hl
  match M,hb,hl with
  | [],_,_ =>
   refine Ev.step (fun k=>by rw [eV]) ?_
   exact Ev.dF (by simp; omega) (Ev.pure' (by simp))
  | [x],_,_ =>
   refine Ev.step (fun k=>by rw [eV]) ?_
   exact Ev.dF (by simp) (Ev.pure' (by simp))
  | x :: x' :: r,hb,hl =>
   obtain ⟨M',y,hM⟩:∃ M' y,x' :: r=M'++[y]:=⟨(x' :: r).dropLast,(x' :: r).getLast (by simp),(List.dropLast_concat_getLast (by simp)).symm⟩
   rw [hM] at hb hl ⊢
   have hlen:(A++(x :: (M'++[y]))++B).length=A.length+M'.length+2+B.length:=by simp; omega
   simp only [List.length_cons,List.length_append,List.length_nil] at hb hl
   have ej:(A.length:Int)+((x :: (M'++[y])).length:Nat) - 1=((A.length+M'.length+1:Nat):Int):=by simp; omega
   rw [ej]
   refine Ev.step (fun k=>by rw [eV]) ?_
   refine Ev.dT (by omega) ?_
   have gy:aU (A++(x :: (M'++[y]))++B) ((A.length+M'.length+1:Nat):Int)=some y:=by
    rw [aPz,show A++(x :: (M'++[y]))++B=(A++x :: M')++(y :: B) by simp,List.getElem?_append_right (by simp; omega)]
    simp [show A.length+M'.length+1 - (A.length+(M'.length+1))=0 by omega]
   have gx:aU (A++(x :: (M'++[y]))++B) (A.length:Int)=some x:=by
    rw [aPz,List.append_assoc,List.getElem?_append_right (by omega)]
    simp
   have s1:(A++(x :: (M'++[y]))++B).set A.length y=A++(y :: (M'++[y]))++B:=by
    rw [List.append_assoc,List.set_append_right _ _ (by omega)]
    simp
   have s2:(A++(y :: (M'++[y]))++B).set (A.length+M'.length+1) x=(A++[y])++M'++(x :: B):=by
    rw [show A++(y :: (M'++[y]))++B=(A++y :: M')++(y :: B) by simp,List.set_append_right _ _ (by simp; omega)]
    simp [show A.length+M'.length+1 - (A.length+(M'.length+1))=0 by omega]
   refine Ev.iteT ⟨by omega,by rw [hlen]; omega⟩ ?_
   refine Ev.opt gy ?_
   refine Ev.iteT ⟨by omega,by rw [hlen]; omega⟩ ?_
   refine Ev.opt gx ?_
   refine Ev.iteT ⟨by omega,by rw [hlen]; omega⟩ ?_
   refine Ev.opt gx ?_
   rw [show ((A.length:Int)).toNat=A.length by omega,show (((A.length+M'.length+1:Nat):Int)).toNat=A.length+M'.length+1 by omega,s1,s2]
   refine Ev.iteT ⟨by omega,by simp; omega⟩ ?_
   refine Ev.opt (a:=y) ?_ ?_
   ·rw [aPz,show A++(y :: (M'++[y]))++B=(A++y :: M')++(y :: B) by simp,List.getElem?_append_right (by simp; omega)]
    simp [show A.length+M'.length+1 - (A.length+(M'.length+1))=0 by omega]
   ·rw [cX (by omega),nC (by omega) (by omega)]
    have:=ih (A++[y]) M' (x :: B) (by omega) (by simp; omega)
    rw [show ((A.length+M'.length+1:Nat):Int) - 1=((A++[y]).length:Nat)+(M'.length:Int) - 1 by simp; omega,show ((A.length+1:Nat):Int)=((A++[y]).length:Nat) by simp]
    refine Ev.cast this ?_
    simp
theorem aZ8 (l:List Int) (h:l.length≤1000) (h1:1≤l.length):Ev (fun K=>slices_Reverse K l) l.reverse:=by
 refine Ev.congr (f:=fun K=>_) ?_ (fun k=>by rw [slices_Reverse])
 have:=bHj l.length [] l [] (Nat.le_refl _) (by simp; omega)
 rw [nC (by omega) (by omega)]
 simpa using this
def bDs:Nat→Nat→List Int
 | 0,_=>[]
 | f+1,n=>((48+n % 10:Nat):Int) :: (if n<10 then [] else bDs f (n / 10))
theorem aYa:∀ (f n:Nat),n<10 ^ f→1≤f→aIa (bDs f n).reverse=dig n
 | 0,_,_,h=>by omega
 | f+1,n,h,_=>by
  unfold bDs
  by_cases h10:n<10
  ·rw [if_pos h10,xN h10,Nat.mod_eq_of_lt h10]; rfl
  ·rw [if_neg h10,aPg h10]
   have hf:1≤f:=by
    cases f with
    | zero=>simp at h; omega
    | succ f=>omega
   have:=aYa f (n / 10) (by rw [Nat.pow_succ] at h; omega) hf
   simp only [aIa] at this
   simp only [aIa,List.reverse_cons,List.map_append,this,List.map_cons,List.map_nil]
   rfl
theorem aOu (sign:List UInt8) (hs:sign.length≤10):∀ (f n:Nat) (acc:List Int),n<10 ^ f→1≤f→acc.length+f≤900→n≤1099511627776→Ev (fun K=>kX K (n:Int) sign acc true) (sign++aIa (acc++bDs f n).reverse)
 | 0,_,_,_,h,_,_=>by omega
 | f+1,n,acc,h,_,ha,hn=>by
  have q1:=Int.tmod_add_mul_tdiv (n:Int) 10
  have q2:=Int.tmod_lt_of_pos (n:Int) (b:=10) (by decide)
  have q4:0≤(n:Int).tmod 10:=Int.tmod_nonneg 10 (by omega)
  have em:(n:Int).tmod 10=((n % 10:Nat):Int):=by omega
  have eq:(n:Int).tdiv 10=((n / 10:Nat):Int):=by omega
  have quo:bAp .quo .u64 (n:Int) 10=some ((n / 10:Nat):Int):=by
   show (if (10:Int)=0 then none else some (IntKind.u64.wrap ((n:Int).tdiv 10)))=_
   rw [if_neg (by decide),eq,aWA (by omega) (by omega)]
  have rem:bAp .rem .u64 (n:Int) 10=some ((n % 10:Nat):Int):=by
   show (if (10:Int)=0 then none else some ((n:Int).tmod 10))=_
   rw [if_neg (by decide),em]
  refine Ev.step (fun k=>by rw [kX]) ?_
  refine Ev.isT rfl ?_
  refine Ev.opt rem ?_
  rw [aWA (x:=48+((n % 10:Nat):Int)) (by omega) (by omega),bIe (x:=48+((n % 10:Nat):Int)) (by omega) (by omega)]
  refine Ev.opt (cM (by simp; omega)) ?_
  refine Ev.opt quo ?_
  unfold bDs
  rw [show (48:Int)+((n % 10:Nat):Int)=((48+n % 10:Nat):Int) by omega]
  by_cases h10:n<10
  ·rw [if_pos h10,decide_eq_false (show ¬ (0:Int)<((n / 10:Nat):Int) by omega)]
   refine Ev.step (fun k=>by rw [kX]) ?_
   refine Ev.isF rfl ?_
   refine Ev.bind (aZ8 _ (by simp; omega) (by simp)) ?_
   refine Ev.iteT (by simp) ?_
   refine Ev.opt (bM (by simp [aIa]; omega)) Ev.pure
  ·rw [if_neg h10,decide_eq_true (show (0:Int)<((n / 10:Nat):Int) by omega)]
   have hf:1≤f:=by
    cases f with
    | zero=>simp at h; omega
    | succ f=>omega
   have:=aOu sign hs f (n / 10) (acc++[((48+n % 10:Nat):Int)]) (by rw [Nat.pow_succ] at h; omega) hf (by simp; omega) (by omega)
   rw [List.append_assoc] at this
   exact this
theorem aOf (n:Int) (hn:n.natAbs≤1099511627776):Ev (fun K=>sU K n) (aA8 n):=by
 refine Ev.congr (f:=fun K=>_) ?_ (fun k=>by rw [sU])
 have core:∀ sign:List UInt8,sign.length≤10→Ev (fun K=>nK K (n.natAbs:Int) sign) (sign++dig n.natAbs):=fun sign hs=>by
  refine Ev.step (fun k=>by rw [nK]) ?_
  have:=aOu sign hs 13 n.natAbs [] (by omega) (by omega) (by simp) hn
  rw [List.nil_append,aYa 13 _ (by omega) (by omega)] at this
  exact this
 unfold aA8
 refine Ev.d (fun hneg=>?_) (fun hneg=>?_)
 ·rw [if_pos hneg,aZh hneg (by omega),aZh (by omega) (by omega),show 0 - (n+18446744073709551616)+18446744073709551616=(n.natAbs:Int) by omega]
  exact core [126] (by simp)
 ·rw [if_neg hneg,aWA (by omega) (by omega)]
  have:=core [] (by simp)
  rwa [show (n.natAbs:Int)=n by omega] at this
end Go.Proofs.YtjhfgiieicloeaaGreatDoor

/- The forms of expressions. -/
namespace Go.Proofs.YtjhfgiieicloeaaGreatDoor
open Go Go.Am Go.Sx
theorem iF {n:Int} {nm mk:List UInt8} {ks:List Tr} {r:Row} (h:eF isT n nm mk ks r=true):aMY nm r.2.2.1=true∧aMY mk r.2.2.2.1=true∧(r.2.2.2.2.1≤n∧n≤r.2.2.2.2.2.1)∧dH isT r.2.2.2.2.2.2 ks=true:=by
 unfold eF at h
 simp only [Bool.and_eq_true,decide_eq_true_eq] at h
 exact ⟨h.1,h.2.1,⟨h.2.2.1,h.2.2.2.1⟩,h.2.2.2.2⟩
theorem dP {s:List UInt8} (h:aMY s []=true):s=[]:=of_decide_eq_true h
theorem aNk {l:List Tr} (h:dH isT [] l=true):l=[]:=List.length_eq_zero_iff.1 (of_decide_eq_true h)
theorem bDw {l:List Tr} (h:dH isT [101] l=true):∃ x,l=[x]∧isT 2 x=true:=by
 rw [aBd (a:=101) (c:=2) (by decide) (by decide) (by decide) rfl] at h
 exact aSQ h
theorem aUy {l:List Tr} (h:dH isT [101,101] l=true):∃ x y,l=[x,y]∧isT 2 x=true∧isT 2 y=true:=by
 rw [xG (a:=101) (b:=101) (c:=2) (d:=2) (by decide) (by decide) (by decide) (by decide) (by decide) (by decide) rfl rfl] at h
 exact aLd h
theorem bHl {l:List Tr} (h:dH isT [116,101] l=true):∃ x y,l=[x,y]∧isT 1 x=true∧isT 2 y=true:=by
 rw [xG (a:=116) (b:=101) (c:=1) (d:=2) (by decide) (by decide) (by decide) (by decide) (by decide) (by decide) rfl rfl] at h
 exact aLd h
theorem bFy {l:List Tr} (h:dH isT [101,101,101] l=true):∃ x y z,l=[x,y,z]∧isT 2 x=true∧isT 2 y=true∧isT 2 z=true:=by
 match l with
 | []=>cases h
 | x :: r =>
  have e:dH isT [101,101,101] (x :: r)=(isT 2 x && dH isT [101,101] r):=rfl
  rw [e,Bool.and_eq_true] at h
  obtain ⟨y,z,rfl,hy,hz⟩:=aUy h.2
  exact ⟨x,y,z,rfl,h.1,hy,hz⟩
theorem bGt {l:List Tr} (h:dH isT [65] l=true):l≠[]∧∀ y∈l,isT 9 y=true:=by
 have e:dH isT [65] l=(l.all (isT 9) && decide (0<l.length)):=rfl
 rw [e,Bool.and_eq_true] at h
 refine ⟨fun hn=>?_,fun y hy=>List.all_eq_true.1 h.1 y hy⟩
 rw [hn] at h; simp at h
theorem bH2 {l:List Tr} (h:dH isT [101,65] l=true):∃ x r,l=x :: r∧isT 2 x=true∧r≠[]∧∀ y∈r,isT 9 y=true:=by
 match l with
 | []=>cases h
 | x :: r =>
  have e:dH isT [101,65] (x :: r)=(isT 2 x && dH isT [65] r):=rfl
  rw [e,Bool.and_eq_true] at h
  exact ⟨x,r,rfl,h.1,bGt h.2⟩
theorem bFA {l:List Tr} (h:dH isT [101,116,65] l=true):∃ x t r,l=x :: t :: r∧isT 2 x=true∧isT 1 t=true∧r≠[]∧∀ y∈r,isT 9 y=true:=by
 match l with
 | []=>cases h
 | [x] =>
  have e:dH isT [101,116,65] [x]=(isT 2 x && false):=rfl
  rw [e,Bool.and_false] at h; cases h
 | x :: t :: r =>
  have e:dH isT [101,116,65] (x :: t :: r)=(isT 2 x && (isT 1 t && dH isT [65] r)):=rfl
  rw [e,Bool.and_eq_true,Bool.and_eq_true] at h
  exact ⟨x,t,r,rfl,h.1,h.2.1,bGt h.2.2⟩
inductive Ex:Tr→Prop
 | int (n:Int) (h:-1073741824≤n∧n≤1073741824):Ex (.node 20 n [] [] [])
 | bool (n:Int) (h:n=0∨n=1):Ex (.node 21 n [] [] [])
 | unit:Ex (.node 22 0 [] [] [])
 | var (s:List UInt8) (h:lgS s=true):Ex (.node 23 0 s [] [])
 | lam (s:List UInt8) (t b:Tr) (h:mG s=true) (ht:isT 1 t=true) (hb:isT 2 b=true):Ex (.node 24 0 s [] [t,b])
 | app (a b:Tr) (ha:isT 2 a=true) (hb:isT 2 b=true):Ex (.node 25 0 [] [] [a,b])
 | pair (a b:Tr) (ha:isT 2 a=true) (hb:isT 2 b=true):Ex (.node 26 0 [] [] [a,b])
 | fst (a:Tr) (ha:isT 2 a=true):Ex (.node 27 0 [] [] [a])
 | snd (a:Tr) (ha:isT 2 a=true):Ex (.node 28 0 [] [] [a])
 | let_ (s:List UInt8) (a b:Tr) (h:mG s=true) (ha:isT 2 a=true) (hb:isT 2 b=true):Ex (.node 29 0 s [] [a,b])
 | if_ (a b c:Tr) (ha:isT 2 a=true) (hb:isT 2 b=true) (hc:isT 2 c=true):Ex (.node 30 0 [] [] [a,b,c])
 | op (n:Int) (a b:Tr) (h:1≤n∧n≤5) (ha:isT 2 a=true) (hb:isT 2 b=true):Ex (.node 31 n [] [] [a,b])
 | case_ (a:Tr) (r:List Tr) (ha:isT 2 a=true) (h0:r≠[]) (hr:∀ y∈r,isT 9 y=true):Ex (.node 32 0 [] [] (a :: r))
 | fold_ (a t:Tr) (r:List Tr) (ha:isT 2 a=true) (ht:isT 1 t=true) (h0:r≠[]) (hr:∀ y∈r,isT 9 y=true):Ex (.node 33 0 [] [] (a :: t :: r))
theorem bF5 {t:Tr} (h:isT 2 t=true):Ex t:=by
 obtain ⟨k,n,nm,mk,ks,rfl⟩:=aEg h
 have hk:k∈eZ 2:=by
  by_cases e:k∈eZ 2
  ·exact e
  ·rw [nZ e] at h; cases h
 have hk:k=20∨k=21∨k=22∨k=23∨k=24∨k=25∨k=26∨k=27∨k=28∨k=29∨k=30∨k=31∨k=32∨k=33:=by
  simpa [show eZ 2=[20,21,22,23,24,25,26,27,28,29,30,31,32,33] from rfl] using hk
 rcases hk with rfl | rfl | rfl | rfl | rfl | rfl | rfl | rfl | rfl | rfl | rfl | rfl | rfl | rfl
 ·rw [aR (r:=(2,20,[],[],-1073741824,1073741824,[])) rfl] at h
  obtain ⟨h1,h2,h3,h4⟩:=iF h
  obtain rfl:=dP h1; obtain rfl:=dP h2; obtain rfl:=aNk h4
  exact .int n h3
 ·rw [aR (r:=(2,21,[],[],0,1,[])) rfl] at h
  obtain ⟨h1,h2,h3,h4⟩:=iF h
  obtain rfl:=dP h1; obtain rfl:=dP h2; obtain rfl:=aNk h4
  have h3:0≤n∧n≤1:=h3
  exact .bool n (by omega)
 ·rw [aR (r:=(2,22,[],[],0,0,[])) rfl] at h
  obtain ⟨h1,h2,h3,h4⟩:=iF h
  obtain rfl:=dP h1; obtain rfl:=dP h2; obtain rfl:=aNk h4
  have h3:0≤n∧n≤0:=h3
  obtain rfl:n=0:=by omega
  exact .unit
 ·rw [aR (r:=(2,23,[108],[],0,0,[])) rfl] at h
  obtain ⟨h1,h2,h3,h4⟩:=iF h
  obtain rfl:=dP h2; obtain rfl:=aNk h4
  have h3:0≤n∧n≤0:=h3
  obtain rfl:n=0:=by omega
  exact .var nm h1
 ·rw [aR (r:=(2,24,[110],[],0,0,[116,101])) rfl] at h
  obtain ⟨h1,h2,h3,h4⟩:=iF h
  obtain rfl:=dP h2; obtain ⟨x,y,rfl,hx,hy⟩:=bHl h4
  have h3:0≤n∧n≤0:=h3
  obtain rfl:n=0:=by omega
  exact .lam nm x y h1 hx hy
 ·rw [aR (r:=(2,25,[],[],0,0,[101,101])) rfl] at h
  obtain ⟨h1,h2,h3,h4⟩:=iF h
  obtain rfl:=dP h1; obtain rfl:=dP h2; obtain ⟨x,y,rfl,hx,hy⟩:=aUy h4
  have h3:0≤n∧n≤0:=h3
  obtain rfl:n=0:=by omega
  exact .app x y hx hy
 ·rw [aR (r:=(2,26,[],[],0,0,[101,101])) rfl] at h
  obtain ⟨h1,h2,h3,h4⟩:=iF h
  obtain rfl:=dP h1; obtain rfl:=dP h2; obtain ⟨x,y,rfl,hx,hy⟩:=aUy h4
  have h3:0≤n∧n≤0:=h3
  obtain rfl:n=0:=by omega
  exact .pair x y hx hy
 ·rw [aR (r:=(2,27,[],[],0,0,[101])) rfl] at h
  obtain ⟨h1,h2,h3,h4⟩:=iF h
  obtain rfl:=dP h1; obtain rfl:=dP h2; obtain ⟨x,rfl,hx⟩:=bDw h4
  have h3:0≤n∧n≤0:=h3
  obtain rfl:n=0:=by omega
  exact .fst x hx
 ·rw [aR (r:=(2,28,[],[],0,0,[101])) rfl] at h
  obtain ⟨h1,h2,h3,h4⟩:=iF h
  obtain rfl:=dP h1; obtain rfl:=dP h2; obtain ⟨x,rfl,hx⟩:=bDw h4
  have h3:0≤n∧n≤0:=h3
  obtain rfl:n=0:=by omega
  exact .snd x hx
 ·rw [aR (r:=(2,29,[110],[],0,0,[101,101])) rfl] at h
  obtain ⟨h1,h2,h3,h4⟩:=iF h
  obtain rfl:=dP h2; obtain ⟨x,y,rfl,hx,hy⟩:=aUy h4
  have h3:0≤n∧n≤0:=h3
  obtain rfl:n=0:=by omega
  exact .let_ nm x y h1 hx hy
 ·rw [aR (r:=(2,30,[],[],0,0,[101,101,101])) rfl] at h
  obtain ⟨h1,h2,h3,h4⟩:=iF h
  obtain rfl:=dP h1; obtain rfl:=dP h2; obtain ⟨x,y,z,rfl,hx,hy,hz⟩:=bFy h4
  have h3:0≤n∧n≤0:=h3
  obtain rfl:n=0:=by omega
  exact .if_ x y z hx hy hz
 ·rw [aR (r:=(2,31,[],[],1,5,[101,101])) rfl] at h
  obtain ⟨h1,h2,h3,h4⟩:=iF h
  obtain rfl:=dP h1; obtain rfl:=dP h2; obtain ⟨x,y,rfl,hx,hy⟩:=aUy h4
  exact .op n x y h3 hx hy
 ·rw [aR (r:=(2,32,[],[],0,0,[101,65])) rfl] at h
  obtain ⟨h1,h2,h3,h4⟩:=iF h
  obtain rfl:=dP h1; obtain rfl:=dP h2; obtain ⟨x,r,rfl,hx,h0,hr⟩:=bH2 h4
  have h3:0≤n∧n≤0:=h3
  obtain rfl:n=0:=by omega
  exact .case_ x r hx h0 hr
 ·rw [aR (r:=(2,33,[],[],0,0,[101,116,65])) rfl] at h
  obtain ⟨h1,h2,h3,h4⟩:=iF h
  obtain rfl:=dP h1; obtain rfl:=dP h2; obtain ⟨x,t,r,rfl,hx,ht,h0,hr⟩:=bFA h4
  have h3:0≤n∧n≤0:=h3
  obtain rfl:n=0:=by omega
  exact .fold_ x t r hx ht h0 hr
theorem aWY {y:Tr} (h:isT 9 y=true):∃ c x e,y=.node 34 0 c x [e]∧mG c=true∧mG x=true∧isT 2 e=true:=by
 obtain ⟨k,n,nm,mk,ks,rfl⟩:=aEg h
 have hk:k=34:=by
  by_cases e:k∈eZ 9
  ·simpa [show eZ 9=[34] from rfl] using e
  ·rw [nZ e] at h; cases h
 subst hk
 rw [aR (r:=(9,34,[110],[110],0,0,[101])) rfl] at h
 obtain ⟨h1,h2,h3,h4⟩:=iF h
 obtain ⟨x,rfl,hx⟩:=bDw h4
 have h3:0≤n∧n≤0:=h3
 obtain rfl:n=0:=by omega
 exact ⟨nm,mk,x,rfl,h1,h2,hx⟩
end Go.Proofs.YtjhfgiieicloeaaGreatDoor

/- The program's writer of expressions, form by form: what it writes out of what it writes of the kids. -/
namespace Go.Proofs.YtjhfgiieicloeaaGreatDoor
open Go Go.Am Go.Sx
def lvO (n:Int):Int:=if n<3 then 2 else if n=3 then 3 else 1
def lfO (n:Int):Int:=if n=3 then 3 else 2
def sgO (n:Int):List UInt8:=if n=1 then [32,43,32] else if n=2 then [32,45,32] else if n=3 then [32,42,32] else if n=4 then [32,61,32] else [32,60,32]
def lvE:Tr→Int
 | .nil=>5
 | .node k n _ _ _=>if k=24 then 0 else if k=29 then 0 else if k=30 then 0 else if k=32 then 0 else if k=33 then 0 else if k=25 then 4 else if k=31 then lvO n else 5
theorem bIN (t:Tr):¬ lvE t<0:=by
 cases t with
 | nil=>decide
 | node k n nm mk ks=>unfold lvE lvO; simp only []; (repeat' split) <;> decide
def PW (t:Tr) (v:List UInt8):Prop:=∀ lv:Int,lv≤5→Ev (fun K=>bX K t lv) (par (decide (lvE t<lv)) v)
theorem PW.zero {t:Tr} {v:List UInt8} (h:PW t v):Ev (fun K=>bX K t 0) v:=by
 have:=h 0 (by decide)
 rwa [decide_eq_false (bIN t)] at this
theorem pw1 {k n:Int} {nm mk:List UInt8} {ks:List Tr} {i lv:Int} {x:Tr} {v:List UInt8} (hg:aU ks i=some x) (h:Ev (fun K=>bX K x lv) v):Ev (fun K=>dB K i lv (.node k n nm mk ks)) v:=by
 refine Ev.step (fun k=>by rw [dB]) ?_
 exact Ev.opt hg (Ev.ret h)
theorem aCo (b:Bool) (s:List UInt8) (hs:s.length≤1125899906842624):Ev (fun K=>mS K b s) (par b s):=by
 refine Ev.congr (f:=fun K=>_) ?_ (fun k=>by rw [mS])
 unfold par
 cases b
 ·exact Ev.isF rfl Ev.pure
 ·exact Ev.isT rfl (Ev.opt (bM (by simp; omega)) (Ev.opt (bM (by simp; omega)) Ev.pure))
theorem aNA {t:Tr} {lv:Int} {v:List UInt8} (h5:lvE t=5) (hl:lv≤5):par (decide (lvE t<lv)) v=v:=by
 rw [decide_eq_false (by omega)]; rfl
section
variable {n:Int} {nm mk:List UInt8} {ks:List Tr}
theorem bHI (h:n.natAbs≤1099511627776):PW (.node 20 n nm mk ks) (aA8 n):=fun lv hl=>by
 rw [aNA rfl hl]
 refine Ev.step (fun k=>by rw [bX]) ?_
 exact Ev.dT rfl (Ev.ret (aOf n h))
def aPT (n:Int):List UInt8:=if n=1 then [116,114,117,101] else [102,97,108,115,101]
theorem bEW:PW (.node 21 n nm mk ks) (aPT n):=fun lv hl=>by
 rw [aNA rfl hl]
 refine Ev.step (fun k=>by rw [bX]) ?_
 refine Ev.dF (by decide) (Ev.dT rfl ?_)
 unfold aPT
 exact Ev.d (fun h=>Ev.pure' (by rw [if_pos h])) (fun h=>Ev.pure' (by rw [if_neg h]))
theorem bET:PW (.node 22 n nm mk ks) [40,32,41]:=fun lv hl=>by
 rw [aNA rfl hl]
 refine Ev.step (fun k=>by rw [bX]) ?_
 exact Ev.dF (by decide) (Ev.dF (by decide) (Ev.dT rfl Ev.pure))
theorem bGB:PW (.node 23 n nm mk ks) nm:=fun lv hl=>by
 rw [aNA rfl hl]
 refine Ev.step (fun k=>by rw [bX]) ?_
 exact Ev.dF (by decide) (Ev.dF (by decide) (Ev.dF (by decide) (Ev.dT rfl Ev.pure)))
variable {x y z:Tr} {vx vy vz:List UInt8}
theorem bFd (hx:PW x vx) (hy:PW y vy) (lx:vx.length≤1099511627776) (ly:vy.length≤1099511627776):PW (.node 26 n nm mk [x,y]) ([40,32]++vx++[32,44,32]++vy++[32,41]):=fun lv hl=>by
 rw [aNA rfl hl]
 refine Ev.step (fun k=>by rw [bX]) ?_
 repeat' first | refine Ev.dT rfl ?_ | refine Ev.dF (by decide) ?_
 refine Ev.bind (pw1 rfl hx.zero) ?_
 refine Ev.opt (bM (by simp; omega)) ?_
 refine Ev.opt (bM (by simp; omega)) ?_
 refine Ev.bind (pw1 rfl hy.zero) ?_
 refine Ev.opt (bM (by simp; omega)) ?_
 exact Ev.opt (bM (by simp; omega)) Ev.pure
theorem bIa (hx:PW x vx) (lx:vx.length≤1099511627776):PW (.node 27 n nm mk [x]) ([35,49,32]++par (decide (lvE x<5)) vx):=fun lv hl=>by
 have px:=tV (decide (lvE x<5)) vx
 rw [aNA rfl hl]
 refine Ev.step (fun k=>by rw [bX]) ?_
 repeat' first | refine Ev.dT rfl ?_ | refine Ev.dF (by decide) ?_
 refine Ev.bind (pw1 rfl (hx 5 (by decide))) ?_
 exact Ev.opt (bM (by simp; omega)) Ev.pure
theorem bGY (hx:PW x vx) (lx:vx.length≤1099511627776):PW (.node 28 n nm mk [x]) ([35,50,32]++par (decide (lvE x<5)) vx):=fun lv hl=>by
 have px:=tV (decide (lvE x<5)) vx
 rw [aNA rfl hl]
 refine Ev.step (fun k=>by rw [bX]) ?_
 repeat' first | refine Ev.dT rfl ?_ | refine Ev.dF (by decide) ?_
 refine Ev.bind (pw1 rfl (hx 5 (by decide))) ?_
 exact Ev.opt (bM (by simp; omega)) Ev.pure
theorem bHf (hx:PW x vx) (hy:PW y vy) (lx:vx.length≤1099511627776) (ly:vy.length≤1099511627776):PW (.node 25 n nm mk [x,y]) (par (decide (lvE x<4)) vx++[32]++par (decide (lvE y<5)) vy):=fun lv hl=>by
 have px:=tV (decide (lvE x<4)) vx
 have py:=tV (decide (lvE y<5)) vy
 refine Ev.step (fun k=>by rw [bX]) ?_
 repeat' first | refine Ev.dT rfl ?_ | refine Ev.dF (by decide) ?_
 refine Ev.bind (pw1 rfl (hx 4 (by decide))) ?_
 refine Ev.opt (bM (by simp; omega)) ?_
 refine Ev.bind (pw1 rfl (hy 5 (by decide))) ?_
 refine Ev.opt (bM (by simp; omega)) ?_
 exact Ev.ret (aCo _ _ (by simp; omega))
theorem bJp (hn:1≤n∧n≤5) (hx:PW x vx) (hy:PW y vy) (lx:vx.length≤1099511627776) (ly:vy.length≤1099511627776):PW (.node 31 n nm mk [x,y]) (par (decide (lvE x<lfO n)) vx++sgO n++par (decide (lvE y<lvO n+1)) vy):=fun lv hl=>by
 refine Ev.step (fun k=>by rw [bX]) ?_
 repeat' first | refine Ev.dT rfl ?_ | refine Ev.dF (by decide) ?_
 refine Ev.ret ?_
 have core:∀ (own lf:Int) (sg:List UInt8),0≤own∧own≤4→lf≤5→sg.length=3→Ev (fun K=>fP K (.node 31 n nm mk [x,y]) lv own lf sg) (par (decide (own<lv)) (par (decide (lvE x<lf)) vx++sg++par (decide (lvE y<own+1)) vy)):=by
  intro own lf sg ho hf hs
  have px:=tV (decide (lvE x<lf)) vx
  have py:=tV (decide (lvE y<own+1)) vy
  refine Ev.step (fun k=>by rw [fP]) ?_
  refine Ev.opt (a:=x) rfl ?_
  refine Ev.opt (a:=y) rfl ?_
  refine Ev.bind (hx lf hf) ?_
  refine Ev.opt (bM (by omega)) ?_
  rw [nC (by omega) (by omega)]
  refine Ev.bind (hy (own+1) (by omega)) ?_
  refine Ev.opt (bM (by simp; omega)) ?_
  exact Ev.ret (aCo _ _ (by simp; omega))
 refine Ev.step (fun k=>by rw [zF]) ?_
 have h5:n=1∨n=2∨n=3∨n=4∨n=5:=by omega
 rcases h5 with rfl | rfl | rfl | rfl | rfl
 ·exact Ev.dT rfl (core 2 2 _ (by decide) (by decide) rfl)
 ·exact Ev.dF (by decide) (Ev.dT rfl (core 2 2 _ (by decide) (by decide) rfl))
 ·exact Ev.dF (by decide) (Ev.dF (by decide) (Ev.dT rfl (core 3 3 _ (by decide) (by decide) rfl)))
 ·exact Ev.dF (by decide) (Ev.dF (by decide) (Ev.dF (by decide) (Ev.dT rfl (core 1 2 _ (by decide) (by decide) rfl))))
 ·exact Ev.dF (by decide) (Ev.dF (by decide) (Ev.dF (by decide) (Ev.dF (by decide) (core 1 2 _ (by decide) (by decide) rfl))))
theorem bG7 (ht:Ev (fun K=>mB K x) vx) (hy:PW y vy) (ln:nm.length≤1000) (lx:vx.length≤1099511627776) (ly:vy.length≤1099511627776) :
  PW (.node 24 n nm mk [x,y]) ([102,110,32,40,32]++nm++[32,58,32]++vx++[32,41,32,61,62,32]++vy):=fun lv hl=>by
 refine Ev.step (fun k=>by rw [bX]) ?_
 repeat' first | refine Ev.dT rfl ?_ | refine Ev.dF (by decide) ?_
 refine Ev.opt (bM (by simp; omega)) ?_
 refine Ev.opt (bM (by simp; omega)) ?_
 refine Ev.opt (a:=x) rfl ?_
 refine Ev.bind ht ?_
 refine Ev.opt (bM (by simp; omega)) ?_
 refine Ev.opt (bM (by simp; omega)) ?_
 refine Ev.bind (pw1 rfl hy.zero) ?_
 refine Ev.opt (bM (by simp; omega)) ?_
 exact Ev.ret (aCo _ _ (by simp; omega))
theorem bH1 (hx:PW x vx) (hy:PW y vy) (ln:nm.length≤1000) (lx:vx.length≤1099511627776) (ly:vy.length≤1099511627776) :
  PW (.node 29 n nm mk [x,y]) ([108,101,116,32]++nm++[32,61,32]++vx++[32,105,110,32]++vy++[32,101,110,100]):=fun lv hl=>by
 refine Ev.step (fun k=>by rw [bX]) ?_
 repeat' first | refine Ev.dT rfl ?_ | refine Ev.dF (by decide) ?_
 refine Ev.opt (bM (by simp; omega)) ?_
 refine Ev.opt (bM (by simp; omega)) ?_
 refine Ev.bind (pw1 rfl hx.zero) ?_
 refine Ev.opt (bM (by simp; omega)) ?_
 refine Ev.opt (bM (by simp; omega)) ?_
 refine Ev.bind (pw1 rfl hy.zero) ?_
 refine Ev.opt (bM (by simp; omega)) ?_
 refine Ev.opt (bM (by simp; omega)) ?_
 exact Ev.ret (aCo _ _ (by simp; omega))
theorem bIR (hx:PW x vx) (hy:PW y vy) (hz:PW z vz) (lx:vx.length≤1099511627776) (ly:vy.length≤1099511627776) (lz:vz.length≤109951162777) :
  PW (.node 30 n nm mk [x,y,z]) ([105,102,32]++vx++[32,116,104,101,110,32]++vy++[32,101,108,115,101,32]++vz):=fun lv hl=>by
 refine Ev.step (fun k=>by rw [bX]) ?_
 repeat' first | refine Ev.dT rfl ?_ | refine Ev.dF (by decide) ?_
 refine Ev.bind (pw1 rfl hx.zero) ?_
 refine Ev.opt (bM (by simp; omega)) ?_
 refine Ev.opt (bM (by simp; omega)) ?_
 refine Ev.bind (pw1 rfl hy.zero) ?_
 refine Ev.opt (bM (by simp; omega)) ?_
 refine Ev.opt (bM (by simp; omega)) ?_
 refine Ev.bind (pw1 rfl hz.zero) ?_
 refine Ev.opt (bM (by simp; omega)) ?_
 exact Ev.ret (aCo _ _ (by simp; omega))
abbrev AT:=List UInt8×List UInt8×Tr×List UInt8
def aTr (a:AT):Tr:=.node 34 0 a.1 a.2.1 [a.2.2.1]
def aTx (a:AT):List UInt8:=a.1++[32]++a.2.1++[32,61,62,32]++a.2.2.2
abbrev aU6:List UInt8:=[32,124,32]
def AOk (a:AT):Prop:=a.1.length≤1000∧a.2.1.length≤1000∧PW a.2.2.1 a.2.2.2∧a.2.2.2.length≤109951162777
def aEK (L:List AT):List UInt8:=Lib.join (L.map aTx) aU6++[32,101,110,100]
theorem aZn {L:List AT} (hL:∀ a∈L,AOk a) (hn:L.length≤1048576) (hj:(Lib.join (L.map aTx) aU6).length≤1099511627776):Ev (fun K=>nO K (L.map aTr)) (aEK L):=by
 refine Ev.step (fun k=>by rw [nO]) ?_
 have loop:∀ (m i:Nat),L.length=i+m→Ev (fun K=>fF K ((L.map aTx).take i) (L.map aTr) (i:Int)) (aEK L):=by
  intro m
  induction m with
  | zero =>
   intro i hi
   rw [List.take_of_length_le (by simp; omega)]
   refine Ev.step (fun k=>by rw [fF]) ?_
   refine Ev.dF (by simp; omega) (Ev.bind (a:=Lib.join (L.map aTx) aU6) ⟨0,fun K _=>?_⟩ ?_)
   ·show (if _ then _ else _)=_
    rw [if_pos ⟨by have:(Lib.join (L.map aTx) [32,124,32]).length≤1099511627776:=hj; omega,by simp; omega⟩]
   ·exact Ev.opt (bM (by simp; omega)) Ev.pure
  | succ m ih =>
   intro i hi
   have hlt:i<L.length:=by omega
   have hx:i<(L.map aTx).length:=by simp; omega
   have hr:i<(L.map aTr).length:=by simp; omega
   obtain ⟨o1,o2,o3,o4⟩:=hL _ (List.getElem_mem hlt)
   refine Ev.step (fun k=>by rw [fF]) ?_
   refine Ev.dT (by omega) (Ev.opt (dX hr) ?_)
   rw [List.getElem_map]
   show Ev (fun K=>(Am.catS L[i].1 [32]).bind fun v8=>((Am.catS v8 L[i].2.1).bind fun v9=>((Am.catS v9 ([32,61,62,32]:List UInt8)).bind fun v10=>((aU [L[i].2.2.1] 0).bind fun v11=>((bX K v11 0).bind fun v12=>((Am.catS v10 v12).bind fun v13=>((aAt 16 ((L.map aTx).take i) ([v13]:List (List UInt8))).bind fun v14=>(fF K v14 (L.map aTr) (IntKind.i64.wrap ((i:Int)+1)))))))))) _
   refine Ev.opt (bM (by simp; omega)) ?_
   refine Ev.opt (bM (by simp; omega)) ?_
   refine Ev.opt (bM (by simp; omega)) ?_
   refine Ev.opt (a:=L[i].2.2.1) rfl ?_
   refine Ev.bind o3.zero ?_
   refine Ev.opt (bM (by simp; omega)) ?_
   refine Ev.opt (cM (by simp; omega)) ?_
   rw [cX (by omega)]
   have:=ih (i+1) (by omega)
   rw [oZ hx,List.getElem_map] at this
   exact this
 have:=loop L.length 0 (by omega)
 simpa using this
theorem bFu {L:List AT} (hx:PW x vx) (lx:vx.length≤1099511627776) (hL:∀ a∈L,AOk a) (hn:L.length≤1048576) (hj:(Lib.join (L.map aTx) aU6).length≤1099511627776) :
  PW (.node 32 n nm mk (x :: L.map aTr)) ([99,97,115,101,32]++vx++[32,111,102,32]++aEK L):=fun lv hl=>by
 have ha:(aEK L).length≤1099511627780:=by unfold aEK; simp; omega
 refine Ev.step (fun k=>by rw [bX]) ?_
 repeat' first | refine Ev.dT rfl ?_ | refine Ev.dF (by decide) ?_
 have e:=xO (l:=x :: L.map aTr) (a:=1) (b:=(x :: L.map aTr).length) (by simp) (Nat.le_refl _)
 rw [List.take_length,List.drop_succ_cons,List.drop_zero] at e
 refine Ev.opt e ?_
 refine Ev.bind (pw1 rfl hx.zero) ?_
 refine Ev.opt (bM (by simp; omega)) ?_
 refine Ev.opt (bM (by simp; omega)) ?_
 refine Ev.bind (aZn hL hn hj) ?_
 refine Ev.opt (bM (by simp; omega)) ?_
 exact Ev.ret (aCo _ _ (by simp; omega))
theorem bFH {L:List AT} (hx:PW x vx) (lx:vx.length≤1099511627776) (ht:Ev (fun K=>mB K y) vy) (ly:vy.length≤1099511627776) (hL:∀ a∈L,AOk a) (hn:L.length≤1048576) (hj:(Lib.join (L.map aTx) aU6).length≤1099511627776) :
  PW (.node 33 n nm mk (x :: y :: L.map aTr)) ([102,111,108,100,32]++vx++[32,116,111,32]++vy++[32,111,102,32]++aEK L):=fun lv hl=>by
 have ha:(aEK L).length≤1099511627780:=by unfold aEK; simp; omega
 refine Ev.step (fun k=>by rw [bX]) ?_
 repeat' first | refine Ev.dF (by decide) ?_
 refine Ev.opt (a:=y) rfl ?_
 have e:=xO (l:=x :: y :: L.map aTr) (a:=2) (b:=(x :: y :: L.map aTr).length) (by simp) (Nat.le_refl _)
 rw [List.take_length,List.drop_succ_cons,List.drop_succ_cons,List.drop_zero] at e
 refine Ev.opt e ?_
 refine Ev.bind (pw1 rfl hx.zero) ?_
 refine Ev.opt (bM (by simp; omega)) ?_
 refine Ev.opt (bM (by simp; omega)) ?_
 refine Ev.bind ht ?_
 refine Ev.opt (bM (by simp; omega)) ?_
 refine Ev.opt (bM (by simp; omega)) ?_
 refine Ev.bind (aZn hL hn hj) ?_
 refine Ev.opt (bM (by simp; omega)) ?_
 exact Ev.ret (aCo _ _ (by simp; omega))
end
end Go.Proofs.YtjhfgiieicloeaaGreatDoor

/- Types as words, and the parser on them. -/
namespace Go.Proofs.YtjhfgiieicloeaaGreatDoor
open Go Go.Am Go.Sx
abbrev Wd:=Int×List UInt8
def kt (k:aI):Wd:=(k.1,k.2.1)
def At (l:List aI) (i:Nat) (m:List Wd):Prop:=(l.map kt).drop i=m
def kW (m:List Wd) (s:List UInt8):Bool:=match m with
 | x :: _=>decide (x.1=3) && decide (x.2=s)
 | []=>false
def nW (m:List Wd):List UInt8×Bool:=match m with
 | x :: _=>if x.1=1∧mG x.2=true then (x.2,true) else ([],false)
 | []=>([],false)
def gW (m:List Wd):List UInt8×Bool:=match m with
 | x :: _=>if x.1=1∧lgS x.2=true then (x.2,true) else ([],false)
 | []=>([],false)
theorem At.tok {l:List aI} {i:Nat} {x:Wd} {m:List Wd} (h:At l i (x :: m)):∃ k,aJI l (i:Int)=some k∧kt k=x:=by
 unfold At at h
 have hlt:i<(l.map kt).length:=by
  rcases Nat.lt_or_ge i (l.map kt).length with h1 | h1
  ·exact h1
  ·rw [List.drop_of_length_le h1] at h; cases h
 rw [List.drop_eq_getElem_cons hlt] at h
 have h1:=(List.cons.inj h).1
 rw [List.getElem_map] at h1
 rw [List.length_map] at hlt
 exact ⟨l[i],by unfold aJI; rw [if_pos (by omega)]; exact dX hlt,h1⟩
theorem At.none {l:List aI} {i:Nat} (h:At l i []):aJI l (i:Int)=none:=by
 unfold At at h
 have:=congrArg List.length h
 rw [List.length_drop,List.length_map,List.length_nil] at this
 exact aBZ (by omega)
theorem At.key {l:List aI} {i:Nat} {m:List Wd} (h:At l i m) (s:List UInt8):bE l (i:Int) s=kW m s:=by
 cases m with
 | nil=>unfold bE kW; rw [h.none]
 | cons x m =>
  obtain ⟨k,h1,h2⟩:=h.tok
  unfold bE kW; rw [h1,← h2]; rfl
theorem At.name {l:List aI} {i:Nat} {m:List Wd} (h:At l i m):pX l (i:Int)=nW m:=by
 cases m with
 | nil=>unfold pX nW; rw [h.none]
 | cons x m =>
  obtain ⟨k,h1,h2⟩:=h.tok
  unfold pX nW; rw [h1,← h2]; rfl
theorem At.long {l:List aI} {i:Nat} {m:List Wd} (h:At l i m):aDq l (i:Int)=gW m:=by
 cases m with
 | nil=>unfold aDq gW; rw [h.none]
 | cons x m =>
  obtain ⟨k,h1,h2⟩:=h.tok
  unfold aDq gW; rw [h1,← h2]; rfl
theorem At.app {l:List aI} {i:Nat} {a b:List Wd} (h:At l i (a++b)):At l (i+a.length) b:=by
 unfold At at h ⊢
 rw [← List.drop_drop,h]
 simp
theorem At.next {l:List aI} {i:Nat} {x:Wd} {b:List Wd} (h:At l i (x :: b)):At l (i+1) b:=At.app (a:=[x]) h
theorem gW3 {s:List UInt8} {m:List Wd}:gW ((3,s) :: m)=([],false):=by
 show (if (3:Int)=1∧lgS s=true then (s,true) else ([],false))=([],false)
 rw [if_neg (by intro h; exact absurd h.1 (by decide))]
theorem kW1 {s u:List UInt8} {m:List Wd}:kW ((1,s) :: m) u=false:=by unfold kW; simp
theorem iR {s u:List UInt8} {m:List Wd}:kW ((3,s) :: m) u=decide (s=u):=by unfold kW; simp
def Pa2 (t:Tr) (w:List Wd):Prop:=∀ (l:List aI) (i n:Nat) (R:List Wd),At l i (w++R)→3 * w.length+1≤n→aHK l n i=(t,i+w.length,0)
def Pa1 (t:Tr) (w:List Wd):Prop:=∀ (l:List aI) (i n:Nat) (R:List Wd),At l i (w++R)→kW R [42]=false→3 * w.length+2≤n→aJn l n i=(t,i+w.length,0)
def Pa0 (t:Tr) (w:List Wd):Prop:=∀ (l:List aI) (i n:Nat) (R:List Wd),At l i (w++R)→kW R [42]=false→kW R [45,62]=false→3 * w.length+3≤n→aER l n i=(t,i+w.length,0)
theorem Pa2.to1 {t:Tr} {w:List Wd} (h:Pa2 t w):Pa1 t w:=fun l i n R ha hk hn=>by
 obtain ⟨n,rfl⟩:∃ q,n=q+1:=⟨n - 1,by omega⟩
 rw [aJn,h l i n R ha (by omega)]
 simp only [if_true]
 rw [ha.app.key,hk,if_neg (by simp)]
theorem Pa1.to0 {t:Tr} {w:List Wd} (h:Pa1 t w):Pa0 t w:=fun l i n R ha hk hk2 hn=>by
 obtain ⟨n,rfl⟩:∃ q,n=q+1:=⟨n - 1,by omega⟩
 rw [aER,h l i n R ha hk (by omega)]
 simp only [if_true]
 rw [ha.app.key,hk2,if_neg (by simp)]
def wp (b:Bool) (w:List Wd):List Wd:=if b=true then (3,[40]) :: w++[(3,[41])] else w
theorem bFD (w:List Wd):wp true w=(3,[40]) :: (w++[(3,[41])]):=rfl
theorem bCo (w:List Wd):wp false w=w:=rfl
theorem Pa0.paren {t:Tr} {w:List Wd} (h:Pa0 t w):Pa2 t (wp true w):=fun l i n R ha hn=>by
 rw [bFD] at ha hn ⊢
 simp only [List.length_cons,List.length_append,List.length_nil] at hn ⊢
 obtain ⟨n,rfl⟩:∃ q,n=q+1:=⟨n - 1,by omega⟩
 rw [List.cons_append,List.append_assoc] at ha
 have h1:=h l (i+1) n ((3,[41]) :: R) ha.next (by rw [iR]; rfl) (by rw [iR]; rfl) (by omega)
 have h2:=(ha.next).app.key [41]
 rw [List.singleton_append,iR] at h2
 rw [aHK,ha.long,gW3,if_neg (by simp),ha.key,iR,if_neg (by simp),ha.key,iR,if_neg (by simp),ha.key,iR,if_neg (by simp),ha.key,iR,if_pos (by simp),h1]
 simp only [if_true]
 rw [h2,if_pos (by simp)]
 simp only [Prod.mk.injEq,and_true,true_and]
 omega
theorem bFX {a b:Tr} {wa wb:List Wd} (ha:Pa2 a wa) (hb:Pa1 b wb):Pa1 (.node 6 0 [] [] [a,b]) (wa++(3,[42]) :: wb):=fun l i n R hat hk hn=>by
 simp only [List.length_cons,List.length_append] at hn ⊢
 obtain ⟨n,rfl⟩:∃ q,n=q+1:=⟨n - 1,by omega⟩
 rw [List.append_assoc,List.cons_append] at hat
 rw [aJn,ha l i n _ hat (by omega)]
 simp only [if_true]
 rw [hat.app.key,iR,if_pos (by simp),hb l _ n R hat.app.next hk (by omega)]
 simp only [if_true,Prod.mk.injEq,and_true,true_and]
 omega
theorem bEj {a b:Tr} {wa wb:List Wd} (ha:Pa1 a wa) (hb:Pa0 b wb):Pa0 (.node 5 0 [] [] [a,b]) (wa++(3,[45,62]) :: wb):=fun l i n R hat hk hk2 hn=>by
 simp only [List.length_cons,List.length_append] at hn ⊢
 obtain ⟨n,rfl⟩:∃ q,n=q+1:=⟨n - 1,by omega⟩
 rw [List.append_assoc,List.cons_append] at hat
 rw [aER,ha l i n _ hat (by rw [iR]; rfl) (by omega)]
 simp only [if_true]
 rw [hat.app.key,iR,if_pos (by simp),hb l _ n R hat.app.next hk hk2 (by omega)]
 simp only [if_true,Prod.mk.injEq,and_true,true_and]
 omega
theorem bGZ:Pa2 (.node 1 0 [] [] []) [(3,[105,110,116])]:=fun l i n R ha hn=>by
 obtain ⟨n,rfl⟩:∃ q,n=q+1:=⟨n - 1,by omega⟩
 rw [List.singleton_append] at ha
 rw [aHK,ha.long,gW3,if_neg (by simp),ha.key,iR,if_pos (by simp)]
 rfl
theorem bFB:Pa2 (.node 2 0 [] [] []) [(3,[98,111,111,108])]:=fun l i n R ha hn=>by
 obtain ⟨n,rfl⟩:∃ q,n=q+1:=⟨n - 1,by omega⟩
 rw [List.singleton_append] at ha
 rw [aHK,ha.long,gW3,if_neg (by simp),ha.key,iR,if_neg (by simp),ha.key,iR,if_pos (by simp)]
 rfl
theorem bE4:Pa2 (.node 3 0 [] [] []) [(3,[117,110,105,116])]:=fun l i n R ha hn=>by
 obtain ⟨n,rfl⟩:∃ q,n=q+1:=⟨n - 1,by omega⟩
 rw [List.singleton_append] at ha
 rw [aHK,ha.long,gW3,if_neg (by simp),ha.key,iR,if_neg (by simp),ha.key,iR,if_neg (by simp),ha.key,iR,if_pos (by simp)]
 rfl
theorem bEX {s:List UInt8} (h:lgS s=true):Pa2 (.node 4 0 s [] []) [(1,s)]:=fun l i n R ha hn=>by
 obtain ⟨n,rfl⟩:∃ q,n=q+1:=⟨n - 1,by omega⟩
 rw [List.singleton_append] at ha
 have hg:gW ((1,s) :: R)=(s,true):=if_pos ⟨rfl,h⟩
 rw [aHK,ha.long,hg,if_pos rfl]
 rfl
inductive aMI:List Tr→List Wd→Prop
 | one {s y w} (hs:mG s=true) (hy:Pa0 y w):aMI [.node 8 0 s [] [y]] ((1,s) :: (3,[111,102]) :: w)
 | more {s y w c v} (hs:mG s=true) (hy:Pa0 y w) (hc:aMI c v):aMI (.node 8 0 s [] [y] :: c) ((1,s) :: (3,[111,102]) :: (w++(3,[124]) :: v))
theorem bAW {c:List Tr} {w:List Wd} (h:aMI c w):∀ (l:List aI) (i n:Nat) (R:List Wd) (out:List Tr),At l i (w++R)→kW R [42]=false→kW R [45,62]=false→kW R [124]=false→(∀ k∈c,nameOf k∉out.map nameOf)→(c.map nameOf).Nodup →
  3 * w.length+1≤n→aHM l n i out=(out++c,i+w.length,0):=by
 induction h with
 | @one s y w hs hy =>
  intro l i n R out ha k1 k2 k3 hd hnd hn
  simp only [List.length_cons] at hn ⊢
  obtain ⟨n,rfl⟩:∃ q,n=q+1:=⟨n - 1,by omega⟩
  simp only [List.cons_append] at ha
  have hg:nW ((1,s) :: (3,[111,102]) :: (w++R))=(s,true):=if_pos ⟨rfl,hs⟩
  have hx:s∉out.map nameOf:=hd _ List.mem_cons_self
  rw [aHM,ha.name,hg,if_pos rfl,if_neg hx,ha.next.key,iR,if_pos (by simp),hy l (i+2) n R ha.next.next k1 k2 (by omega)]
  simp only [if_true]
  have:=ha.next.next.app.key [124]
  rw [k3] at this
  rw [this,if_neg (by simp)]
  simp only [Prod.mk.injEq,and_true,true_and]
  omega
 | @more s y w c v hs hy hc ih =>
  intro l i n R out ha k1 k2 k3 hd hnd hn
  simp only [List.length_cons,List.length_append] at hn ⊢
  obtain ⟨n,rfl⟩:∃ q,n=q+1:=⟨n - 1,by omega⟩
  simp only [List.cons_append,List.append_assoc] at ha
  have hg:nW ((1,s) :: (3,[111,102]) :: (w++(3,[124]) :: (v++R)))=(s,true):=if_pos ⟨rfl,hs⟩
  have hx:s∉out.map nameOf:=hd _ List.mem_cons_self
  rw [List.map_cons,List.nodup_cons] at hnd
  rw [aHM,ha.name,hg,if_pos rfl,if_neg hx,ha.next.key,iR,if_pos (by simp),hy l (i+2) n _ ha.next.next (by rw [iR]; rfl) (by rw [iR]; rfl) (by omega)]
  simp only [if_true]
  have:=ha.next.next.app.key [124]
  rw [iR] at this
  rw [this,if_pos (by simp),ih l _ n R _ ha.next.next.app.next k1 k2 k3 (fun k hk=>by
   rw [List.map_append,List.mem_append,not_or]
   refine ⟨hd k (List.mem_cons_of_mem _ hk),fun h=>hnd.1 ?_⟩
   rw [List.map_cons,List.map_nil,List.mem_singleton] at h
   exact h ▸ List.mem_map_of_mem hk) hnd.2 (by omega)]
  simp only [List.append_assoc,List.singleton_append,Prod.mk.injEq,and_true,true_and]
  omega
theorem bIG {s:List UInt8} {c:List Tr} {w:List Wd} (hs:mG s=true) (h:aMI c w) (hnd:(c.map nameOf).Nodup):Pa2 (.node 7 0 s [] c) ((3,[109,117]) :: (1,s) :: (3,[123]) :: (w++[(3,[125])])):=fun l i n R ha hn=>by
 simp only [List.length_cons,List.length_append,List.length_nil] at hn ⊢
 obtain ⟨n,rfl⟩:∃ q,n=q+1:=⟨n - 1,by omega⟩
 simp only [List.cons_append,List.append_assoc,List.nil_append] at ha
 have hg:nW ((1,s) :: (3,[123]) :: (w++(3,[125]) :: R))=(s,true):=if_pos ⟨rfl,hs⟩
 have h1:=bAW h l (i+3) n ((3,[125]) :: R) [] ha.next.next.next (by rw [iR]; rfl) (by rw [iR]; rfl) (by rw [iR]; rfl) (fun _ _=>by simp) hnd (by omega)
 have h2:=ha.next.next.next.app.key [125]
 rw [iR] at h2
 rw [aHK,ha.long,gW3,if_neg (by simp),ha.key,iR,if_neg (by simp),ha.key,iR,if_neg (by simp),ha.key,iR,if_neg (by simp),ha.key,iR,if_neg (by simp),ha.key,iR,if_pos (by simp),ha.next.name,hg,if_pos rfl,ha.next.next.key,iR,if_pos (by simp),h1]
 simp only [if_true]
 rw [h2,if_pos (by simp)]
 simp only [List.nil_append,Prod.mk.injEq,and_true,true_and]
 omega
end Go.Proofs.YtjhfgiieicloeaaGreatDoor

/- Texts whose runes may all be read, and those of names: what stands behind changes nothing. -/
namespace Go.Proofs.YtjhfgiieicloeaaGreatDoor
open Go Go.Am Go.Sx
theorem aO8 {p q:List UInt8} {j:Nat} (h:j<p.length):(p++q)[j]! = p[j]!:=by
 rw [getElem!_pos _ j (by simp; omega),getElem!_pos _ j h,List.getElem_append_left h]
theorem bAK {p:List UInt8} (q:List UInt8) (hp:p≠[]) (hr:(dc p).1≠65533):dc (p++q)=dc p:=by
 have h1:1≤p.length:=by cases p with | nil=>exact absurd rfl hp | cons=>simp
 have e0:(p++q)[0]! = p[0]!:=aO8 h1
 have e1:1<p.length→(p++q)[1]! = p[1]!:=aO8
 have e2:2<p.length→(p++q)[2]! = p[2]!:=aO8
 have e3:3<p.length→(p++q)[3]! = p[3]!:=aO8
 have hl:(p++q).length=p.length+q.length:=List.length_append
 unfold dc Lib.decodeN at hr ⊢
 rw [e0,hl]
 generalize p[0]!.toNat=b0 at *
 by_cases c0:b0<128
 ·rw [if_pos c0,if_pos c0]
 rw [if_neg c0] at hr
 rw [if_neg c0,if_neg c0]
 by_cases c1:b0 / 32=6∧(1<p.length∧p[1]!.toNat / 64=2)
 ·rw [e1 c1.2.1,if_pos c1,if_pos ⟨c1.1,by omega,c1.2.2⟩]
 rw [if_neg c1] at hr
 rw [if_neg c1]
 by_cases c2:b0 / 16=14∧(1<p.length∧p[1]!.toNat / 64=2)∧(2<p.length∧p[2]!.toNat / 64=2)
 ·rw [e1 c2.2.1.1,e2 c2.2.2.1,if_pos c2,if_neg (by omega),if_pos ⟨c2.1,⟨by omega,c2.2.1.2⟩,by omega,c2.2.2.2⟩]
 rw [if_neg c2] at hr
 rw [if_neg c2]
 by_cases c3:b0 / 8=30∧(1<p.length∧p[1]!.toNat / 64=2)∧(2<p.length∧p[2]!.toNat / 64=2)∧(3<p.length∧p[3]!.toNat / 64=2)
 ·rw [e1 c3.2.1.1,e2 c3.2.2.1.1,e3 c3.2.2.2.1,if_pos c3,if_neg (by omega),if_neg (by omega),if_pos ⟨c3.1,⟨by omega,c3.2.1.2⟩,⟨by omega,c3.2.2.1.2⟩,by omega,c3.2.2.2.2⟩]
 rw [if_neg c3] at hr
 exact absurd rfl hr
theorem zZ {b:UInt8} {t:List UInt8} (h:b.toNat<128):dc (b :: t)=(b.toNat,1):=aYZ (l:=b :: t) h
def inn (r:Int):Bool:=decide (cls r=1) || (decide (cls r=2) || decide (r=39))
def okr (r:Nat):Prop:=r≠65533∧((r:Int)<32→cls r=3)∧r≠127
theorem bAN {r:Nat} (h:inn (r:Int)=true):39≤r∧r≠65533∧r≠127:=by
 unfold inn at h
 simp only [Bool.or_eq_true,decide_eq_true_eq] at h
 unfold cls at h
 rcases h with h | h | h
 ·repeat' split at h
  all_goals omega
 ·repeat' split at h
  all_goals omega
 ·omega
theorem bHG {r:Nat} (h:inn (r:Int)=true):okr r:=by
 have:=bAN h
 exact ⟨this.2.1,fun h=>by omega,this.2.2⟩
inductive Rk:List UInt8→Prop
 | nil:Rk []
 | cons {p} (h:p≠[]) (hr:okr (dc p).1) (t:Rk (p.drop (dc p).2)):Rk p
inductive Inn:List UInt8→Prop
 | nil:Inn []
 | cons {p} (h:p≠[]) (hr:inn (((dc p).1:Nat):Int)=true) (t:Inn (p.drop (dc p).2)):Inn p
theorem Inn.rk {p:List UInt8} (h:Inn p):Rk p:=by
 induction h with
 | nil=>exact .nil
 | cons h hr _ ih=>exact .cons h (bHG hr) ih
theorem aYo {p q:List UInt8} {n:Nat} (h:n≤p.length):(p++q).drop n=p.drop n++q:=by
 rw [List.drop_append,show n - p.length=0 by omega,List.drop_zero]
theorem aQO {a b:List UInt8} (ha:Rk a) (hb:Rk b):Rk (a++b):=by
 induction ha with
 | nil=>exact hb
 | @cons p h hr _ ih =>
  have e:=bAK b h hr.1
  refine .cons (by simp [h]) (by rw [e]; exact hr) ?_
  rw [e,aYo (bEl h)]; exact ih
theorem aK2:∀ {p:List UInt8},(∀ b∈p,32≤b.toNat∧b.toNat<127)→Rk p
 | [],_=>.nil
 | b :: t,h=>by
  have hb:=h b List.mem_cons_self
  have e:dc (b :: t)=(b.toNat,1):=zZ (by omega)
  refine .cons (by simp) ?_ ?_
  ·rw [e]; exact ⟨by simp only; omega,fun h=>by simp only at h; omega,by simp only; omega⟩
  ·rw [e]; exact aK2 fun b hb=>h b (List.mem_cons_of_mem _ hb)
theorem aV8:∀ {p:List UInt8},(∀ b∈p,97≤b.toNat∧b.toNat<123)→Inn p
 | [],_=>.nil
 | b :: t,h=>by
  have hb:=h b List.mem_cons_self
  have e:dc (b :: t)=(b.toNat,1):=zZ (by omega)
  have hc:cls ((b.toNat:Nat):Int)=1:=by unfold cls; rw [if_pos (by omega)]
  refine .cons (by simp) ?_ ?_
  ·rw [e]; unfold inn; rw [hc]; rfl
  ·rw [e]; exact aV8 fun b hb=>h b (List.mem_cons_of_mem _ hb)
theorem bCC:∀ (n:Nat) (p:List UInt8),p.length≤n→∀ f,bAH f (rs p)=true→Inn p:=by
 intro n
 induction n with
 | zero =>
  intro p h f _
  obtain rfl:=List.length_eq_zero_iff.1 (Nat.le_zero.1 h)
  exact .nil
 | succ n ih =>
  intro p h f ho
  by_cases hp:p=[]
  ·subst hp; exact .nil
  ·rw [aWB hp,aP9] at ho
   simp only [Bool.and_eq_true,Bool.or_eq_true] at ho
   have hw:=aEL p
   refine .cons hp ?_ (ih _ (by rw [List.length_drop]; omega) false ho.2)
   unfold inn
   simp only [Bool.or_eq_true]
   rcases ho.1 with h1 | h1
   ·exact .inl h1
   ·exact .inr h1.2
theorem bAu {p:List UInt8} (hp:p≠[]) (ho:bAH true (rs p)=true):cls (((dc p).1:Nat):Int)=1:=by
 rw [aWB hp,aP9] at ho
 simp only [Bool.not_true,Bool.false_and,Bool.or_false,Bool.and_eq_true,decide_eq_true_eq] at ho
 exact ho.1
theorem aTa {s:List UInt8} (h:mG s=true):s≠[]∧nmS s=true∧s∉aWM∧Inn s∧cls (((dc s).1:Nat):Int)=1:=by
 unfold mG at h
 simp only [Bool.and_eq_true,Bool.not_eq_true',decide_eq_false_iff_not] at h
 have h1:=h.1
 unfold nmS at h1
 simp only [Bool.and_eq_true,decide_eq_true_eq] at h1
 exact ⟨h1.1,h.1,h.2,bCC _ s (Nat.le_refl _) true h1.2.2.2,bAu h1.1 h1.2.2.2⟩
def lj:List (List UInt8)→List UInt8
 | []=>[]
 | p :: r=>46 :: (p++lj r)
theorem bDZ:∀ s:List UInt8,(pcs s).headD []++lj (pcs s).tail=s
 | []=>rfl
 | b :: t=>by
  have ih:=bDZ t
  unfold pcs
  by_cases h:b=46
  ·rw [if_pos h]
   show []++lj (pcs t)=_
   rw [bDq t,h,List.nil_append]
   show 46 :: ((pcs t).headD []++lj (pcs t).tail)=_
   rw [ih]
  ·rw [if_neg h]
   show b :: ((pcs t).headD []++lj (pcs t).tail)=_
   rw [ih]
theorem bGi:∀ {r:List (List UInt8)},(∀ p∈r,mG p=true)→Rk (lj r)
 | [],_=>.nil
 | p :: r,h=>by
  show Rk ([46]++(p++lj r))
  exact aQO (aK2 (by decide)) (aQO (aTa (h p List.mem_cons_self)).2.2.2.1.rk (bGi fun q hq=>h q (List.mem_cons_of_mem _ hq)))
theorem aC6 {s:List UInt8} (h:lgS s=true):∃ p r,s=p++lj r∧mG p=true∧(∀ q∈r,mG q=true)∧s.length≤128:=by
 unfold lgS at h
 simp only [Bool.and_eq_true,decide_eq_true_eq,List.all_eq_true] at h
 have h2:=h.2
 rw [bDq s] at h2
 exact ⟨_,_,(bDZ s).symm,h2 _ List.mem_cons_self,fun q hq=>h2 q (List.mem_cons_of_mem _ hq),h.1⟩
theorem bDl {s:List UInt8} (h:mG s=true):∃ p r,s=p++lj r∧mG p=true∧(∀ q∈r,mG q=true)∧s.length≤128:=by
 refine ⟨s,[],by simp [lj],h,fun q hq=>by simp at hq,?_⟩
 unfold mG nmS at h
 simp only [Bool.and_eq_true,decide_eq_true_eq] at h
 omega
def jt:List Wd→List UInt8
 | []=>[]
 | x :: r=>32 :: (x.2++jt r)
def jn:List Wd→List UInt8
 | []=>[]
 | x :: r=>x.2++jt r
theorem aAq:∀ a b:List Wd,jt (a++b)=jt a++jt b
 | [],b=>rfl
 | x :: r,b=>by
  show 32 :: (x.2++jt (r++b))=32 :: (x.2++jt r)++jt b
  rw [aAq r b]; simp
theorem aKr {a:List Wd} (h:a≠[]) (b:List Wd):jn (a++b)=jn a++jt b:=by
 cases a with
 | nil=>exact absurd rfl h
 | cons x r =>
  show x.2++jt (r++b)=x.2++jt r++jt b
  rw [aAq]; simp
theorem rO {a:List Wd} (h:a≠[]):jt a=32 :: jn a:=by
 cases a with
 | nil=>exact absurd rfl h
 | cons x r=>rfl
end Go.Proofs.YtjhfgiieicloeaaGreatDoor

/- The lexer on words with blanks between. -/
namespace Go.Proofs.YtjhfgiieicloeaaGreatDoor
open Go Go.Am Go.Sx
theorem aZe (r:Int):Ev (fun K=>aDj K r) (inn r):=by
 refine Ev.congr (f:=fun K=>_) ?_ (fun K=>by rw [aDj])
 refine Ev.bind (xQ r) ?_
 unfold inn
 refine Ev.d (fun h=>Ev.pure' ?_) (fun h=>Ev.d (fun h2=>Ev.pure' ?_) (fun h2=>Ev.pure' ?_))
 ·rw [decide_eq_true h]; rfl
 ·rw [decide_eq_true h2]; simp
 ·rw [decide_eq_false h,decide_eq_false h2]; rfl
def Stop (t:List UInt8):Prop:=t=[]∨∃ b r,t=b :: r∧b.toNat<128∧inn ((b.toNat:Nat):Int)=false
theorem bBh (r:List UInt8):Stop (46 :: r):=.inr ⟨46,r,rfl,by decide,by decide⟩
theorem bFE (r:List UInt8):Stop (32 :: r):=.inr ⟨32,r,rfl,by decide,by decide⟩
theorem aVL (s:List UInt8):∀ (m:Nat) (p:List UInt8),p.length≤m→Inn p→∀ (i:Nat) (tail:List UInt8),s.drop i=p++tail→Stop tail→i≤s.length→Ev (fun K=>jR K s s (i:Int)) ((i+p.length:Nat):Int):=by
 have fin:∀ (i:Nat) (tail:List UInt8),s.drop i=tail→Stop tail→i≤s.length→Ev (fun K=>jR K s s (i:Int)) ((i:Nat):Int):=fun i tail hd hst hi=>by
  refine Ev.step (fun k=>by rw [jR]) ?_
  simp only [Int.toNat_natCast,sL]
  rcases hst with e | ⟨b,r,e,hb,hn⟩
  ·rw [e] at hd
   have:=congrArg List.length hd
   rw [List.length_drop,List.length_nil] at this
   exact Ev.dF (by omega) (Ev.pure' (by omega))
  ·rw [e] at hd
   have:=congrArg List.length hd
   rw [List.length_drop,List.length_cons] at this
   refine Ev.dT (by omega) ?_
   rw [hd,zZ hb]
   refine Ev.bind (aZe _) ?_
   rw [hn]
   exact Ev.isT rfl Ev.pure
 intro m
 induction m with
 | zero =>
  intro p hp _ i tail hd hst hi
  obtain rfl:=List.length_eq_zero_iff.1 (Nat.le_zero.1 hp)
  exact fin i tail hd hst hi
 | succ m ih =>
  intro p hp hin i tail hd hst hi
  cases hin with
  | nil=>exact fin i tail hd hst hi
  | cons hne hr ht =>
   have hw:=aEL p
   have hle:=bEl hne
   have h65:=(bAN hr).2.1
   have e:=bAK tail hne h65
   have:=congrArg List.length hd
   rw [List.length_drop,List.length_append] at this
   refine Ev.step (fun k=>by rw [jR]) ?_
   simp only [Int.toNat_natCast,sL]
   refine Ev.dT (by omega) ?_
   rw [hd,e]
   refine Ev.bind (aZe _) ?_
   rw [hr]
   refine Ev.isF rfl ?_
   have nxt:=ih (p.drop (dc p).2) (by rw [List.length_drop]; omega) ht (i+(dc p).2) tail (by rw [← List.drop_drop,hd,aYo hle]) hst (by omega)
   rw [List.length_drop] at nxt
   rw [show i+p.length=i+(dc p).2+(p.length - (dc p).2) by omega]
   exact nxt
theorem aOW {p tail:List UInt8} (hp:Inn p) (ht:Stop tail):Ev (fun K=>uH K (p++tail)) ((p.length:Nat):Int):=by
 refine Ev.congr (f:=fun K=>_) ?_ (fun K=>by rw [uH])
 have:=aVL (p++tail) p.length p (Nat.le_refl _) hp 0 tail rfl ht (by omega)
 simpa using this
theorem aYl (r:Int):Ev (fun K=>aDm K r) (decide (cls r=3)):=by
 refine Ev.congr (f:=fun K=>_) ?_ (fun K=>by rw [aDm])
 exact Ev.bind (xQ r) Ev.pure
theorem bAS {s:List UInt8} {i:Nat} (hi:i<s.length) (hc:cls (((dc (s.drop i)).1:Nat):Int)≠3):Ev (fun K=>oV K s s (i:Int)) (i:Int):=by
 refine Ev.step (fun k=>by rw [oV]) ?_
 simp only [Int.toNat_natCast,sL]
 refine Ev.dT hi ?_
 refine Ev.bind (aYl _) ?_
 rw [decide_eq_false hc]
 exact Ev.isT rfl Ev.pure
theorem bEb {s:List UInt8} (hs:s≠[]) (hc:cls (((dc s).1:Nat):Int)≠3):Ev (fun K=>aAG K s) 0:=by
 refine Ev.congr (f:=fun K=>_) ?_ (fun K=>by rw [aAG])
 exact bAS (s:=s) (i:=0) (by cases s with | nil=>exact absurd rfl hs | cons=>simp) hc
theorem bCB {s:List UInt8} (hs:s≠[]) (hc:cls (((dc s).1:Nat):Int)≠3):Ev (fun K=>aAG K (32 :: s)) 1:=by
 refine Ev.congr (f:=fun K=>_) ?_ (fun K=>by rw [aAG])
 refine Ev.step (fun k=>by rw [oV]) ?_
 have e:dc (32 :: s)=(32,1):=zZ (by decide)
 rw [show (0:Int).toNat=0 from rfl,sL,List.drop_zero,e]
 refine Ev.dT (by simp) ?_
 refine Ev.bind (aYl _) ?_
 refine Ev.isF (by decide) ?_
 exact bAS (s:=32 :: s) (i:=1) (by cases s with | nil=>exact absurd rfl hs | cons=>simp) hc
theorem aWy (s x:List UInt8):Ev (fun K=>strings_HasPrefix K s x) (x.isPrefixOf s):=by
 refine Ev.congr (f:=fun K=>_) ?_ (fun K=>by rw [strings_HasPrefix])
 refine Ev.ret ?_
 refine Ev.congr (f:=fun K=>_) ?_ (fun K=>by rw [stringslite_HasPrefix])
 have hb:x.isPrefixOf s=true↔x=s.take x.length:=by rw [List.isPrefixOf_iff_prefix,List.prefix_iff_eq_take]
 refine Ev.d (fun h=>?_) (fun h=>Ev.pure' ?_)
 ·refine Ev.opt (a:=s.take x.length) ?_ (Ev.pure' ?_)
  ·have:=xO (l:=s) (a:=0) (b:=x.length) (by omega) (by omega)
   simpa using this
  ·by_cases e:s.take x.length=x
   ·rw [decide_eq_true e,hb.2 e.symm]
   ·rw [decide_eq_false e]
    cases hx:x.isPrefixOf s with
    | false=>rfl
    | true=>exact absurd (hb.1 hx).symm e
 ·cases hx:x.isPrefixOf s with
  | false=>rfl
  | true =>
   have:=congrArg List.length (hb.1 hx)
   rw [List.length_take] at this
   omega
theorem aPl {s:List UInt8} (hs:s≠[]):Ev (fun K=>aDh K s) (((dc s).1:Nat):Int):=by
 refine Ev.congr (f:=fun K=>_) ?_ (fun K=>by rw [aDh])
 refine Ev.step (fun k=>by rw [vZ]) ?_
 rw [show (0:Int).toNat=0 from rfl,sL,List.drop_zero]
 exact Ev.dT (by cases s with | nil=>exact absurd rfl hs | cons=>simp) Ev.pure
abbrev bIF:=Int×List UInt8×Int×Int×Int×Bool
def fnd (l:List (List UInt8)) (s:List UInt8):bIF:=match l.find? (fun x=>x.isPrefixOf s) with
 | some x=>(3,x,0,0,((x.length:Nat):Int),true)
 | none=>(0,[],0,0,0,false)
theorem aVH (s:List UInt8) (l:List (List UInt8)) (hl:l.length≤1000):∀ (m i:Nat),l.length=i+m→Ev (fun K=>mW K s l (i:Int)) (fnd (l.drop i) s):=by
 intro m
 induction m with
 | zero =>
  intro i hi
  refine Ev.step (fun k=>by rw [mW]) (Ev.dF (by omega) (Ev.pure' ?_))
  rw [List.drop_of_length_le (by omega)]; rfl
 | succ m ih =>
  intro i hi
  have hlt:i<l.length:=by omega
  refine Ev.step (fun k=>by rw [mW]) ?_
  refine Ev.dT (by omega) (Ev.opt (dX hlt) (Ev.bind (aWy s _) ?_))
  rw [iP hlt]
  unfold fnd
  rw [List.find?_cons]
  cases hx:l[i].isPrefixOf s with
  | true=>exact Ev.isT rfl Ev.pure
  | false =>
   refine Ev.isF rfl ?_
   rw [cX (by omega)]
   exact ih (i+1) (by omega)
def aZp:List (List UInt8):=(aDg 0).getD []
theorem bEd (k:Nat):aDg k=some aZp:=rfl
def Bl (t:List UInt8):Prop:=t=[]∨∃ r,t=32 :: r
theorem Bl.stop {t:List UInt8} (h:Bl t):Stop t:=by
 rcases h with h | ⟨r,rfl⟩
 ·exact .inl h
 ·exact bFE r
theorem bGu (w:List Wd):Bl (jt w):=by
 cases w with
 | nil=>exact .inl rfl
 | cons x r=>exact .inr ⟨_,rfl⟩
def fv (v:Int) (s:List UInt8):Int:=s.foldl (fun v b=>10 * v+((b.toNat:Int) - 48)) v
def nOf (x:Wd):Int:=if x.1=2 then (if x.2.headD 0=126 then -(fv 0 (x.2.drop 1)) else fv 0 x.2) else 0
def Tk (x:Wd):Prop:=x.2≠[]∧Rk x.2∧x.2.length≤1000∧∀ tail,tail.length≤1000000→Bl tail→cls (((dc (x.2++tail)).1:Nat):Int)≠3∧List.isPrefixOf [40,42] (x.2++tail)=false∧Ev (fun K=>qP K (x.2++tail)) (x.1,x.2,nOf x,0,((x.2.length:Nat):Int),true)
theorem aXs {b:UInt8} {w:List UInt8} (hb:b.toNat<127∧33≤b.toNat∧b.toNat≠126∧cls ((b.toNat:Nat):Int)=0) (hw:∀ c∈w,32≤c.toNat∧c.toNat<127) (hl:w.length≤10)
  (hf:∀ tail,Bl tail→fnd aZp (b :: w++tail)=(3,b :: w,0,0,(((b :: w).length:Nat):Int),true)∧List.isPrefixOf [40,42] (b :: w++tail)=false):Tk (3,b :: w):=by
 refine ⟨by simp,aK2 ?_,by simp; omega,fun tail _ ht=>?_⟩
 ·intro c hc
  rcases List.mem_cons.1 hc with rfl | hc
  ·omega
  ·exact hw c hc
 ·have e:dc (b :: w++tail)=(b.toNat,1):=zZ (by omega)
  obtain ⟨h1,h2⟩:=hf tail ht
  refine ⟨by rw [e]; simp only [hb.2.2.2]; decide,h2,?_⟩
  refine Ev.congr (f:=fun K=>_) ?_ (fun K=>by rw [qP])
  refine Ev.bind (aPl (by simp)) ?_
  rw [e]
  refine Ev.bind (xQ _) ?_
  rw [hb.2.2.2]
  refine Ev.dF (by decide) ?_
  refine Ev.dF (by decide) ?_
  refine Ev.opt (a:=b) rfl ?_
  refine Ev.dF (by omega) ?_
  refine Ev.opt (bEd 0) ?_
  have:=aVH (b :: w++tail) aZp (by decide) aZp.length 0 (by omega)
  rw [List.drop_zero,h1] at this
  exact this
theorem bGQ {l:List UInt8} {a b:List UInt8} (h:l=a++b):jA l 0 ((a.length:Nat):Int)=some a:=by
 subst h
 have:=xO (l:=a++b) (a:=0) (b:=a.length) (by omega) (by simp)
 simpa using this
theorem aOj {w:List UInt8} (hw:w∈aWM) (hn:w≠[]) (ha:∀ b∈w,97≤b.toNat∧b.toNat<123) (hl:w.length≤100):Tk (3,w):=by
 have hin:=aV8 ha
 refine ⟨hn,hin.rk,by simp only; omega,fun tail htl ht=>?_⟩
 obtain ⟨b,w',rfl⟩:∃ b w',w=b :: w':=by cases w with | nil=>exact absurd rfl hn | cons b w'=>exact ⟨b,w',rfl⟩
 have hb:=ha b List.mem_cons_self
 have e:dc (b :: w'++tail)=(b.toNat,1):=zZ (by omega)
 have hc:cls ((b.toNat:Nat):Int)=1:=by unfold cls; rw [if_pos (by omega)]
 refine ⟨by rw [e]; simp only [hc]; decide,?_,?_⟩
 ·show (40 == b && _)=false
  rw [show ((40:UInt8) == b)=false from by
   rw [beq_eq_false_iff_ne]; intro h; rw [← h] at hb; exact absurd hb.1 (by decide)]; rfl
 ·refine Ev.congr (f:=fun K=>_) ?_ (fun K=>by rw [qP])
  refine Ev.bind (aPl (by simp)) ?_
  rw [e]
  refine Ev.bind (xQ _) ?_
  rw [hc]
  refine Ev.dT rfl ?_
  refine Ev.bind (a:=((3:Int),b :: w',(0:Int),(0:Int),(((b :: w').length:Nat):Int),true)) ?_ Ev.pure
  refine Ev.congr (f:=fun K=>_) ?_ (fun K=>by rw [aE7])
  refine Ev.bind (aOW hin ht.stop) ?_
  have hs:=bGQ (l:=b :: w'++tail) (a:=b :: w') (b:=tail) rfl
  refine Ev.opt hs ?_
  refine Ev.bind (aLe _) ?_
  refine Ev.dT hw ?_
  refine Ev.d (fun _=>Ev.opt hs Ev.pure) (fun h=>?_)
  rcases ht with rfl | ⟨r,rfl⟩
  ·exact absurd (by simp) h
  ·refine Ev.opt (a:=32) ?_ ?_
   ·rw [dX (by simp),List.getElem_append_right (Nat.le_refl _)]; simp
   ·exact Ev.nT (by decide) (Ev.opt hs Ev.pure)
theorem bBK (s tail:List UInt8) (ht:Bl tail) (hs:s.length≤2000000):∀ (r:List (List UInt8)),(∀ p∈r,mG p=true)→∀ n:Nat,s.drop n=lj r++tail→n≤s.length →
  Ev (fun K=>iJ K s (n:Int) true) (1,s.take (n+(lj r).length),0,0,((n+(lj r).length:Nat):Int),decide (((n+(lj r).length:Nat):Int)≤128)):=by
 intro r
 induction r with
 | nil =>
  intro _ n hd hn
  have hsub:jA s 0 (n:Int)=some (s.take n):=by
   have:=xO (l:=s) (a:=0) (b:=n) (by omega) hn
   simpa using this
  refine Ev.step (fun k=>by rw [iJ]) ?_
  refine Ev.isT rfl ?_
  show Ev _ (1,s.take n,0,0,(n:Int),decide ((n:Int)≤128))
  refine Ev.d (fun h=>?_) (fun h=>Ev.opt hsub Ev.pure)
  rcases ht with rfl | ⟨t,rfl⟩
  ·have:=congrArg List.length hd
   simp [lj] at this
   omega
  ·have hlt:n<s.length:=by omega
   rw [iP hlt] at hd
   have e:=(List.cons.inj hd).1
   refine Ev.opt (dX hlt) ?_
   rw [e]
   exact Ev.dF (by decide) (Ev.opt hsub Ev.pure)
 | cons p r ih =>
  intro hck n hd hn
  have hp:=aTa (hck p List.mem_cons_self)
  have hd':s.drop n=46 :: (p++(lj r++tail)):=by rw [hd]; simp [lj]
  have hll:=congrArg List.length hd'
  simp only [List.length_drop,List.length_cons,List.length_append] at hll
  have hlt:n<s.length:=by omega
  have hd1:s.drop (n+1)=p++(lj r++tail):=by
   rw [iP hlt] at hd'
   exact (List.cons.inj hd').2
  have e:s[n]=46:=by
   rw [iP hlt] at hd'
   exact (List.cons.inj hd').1
  have hsub:jA s ((n+1:Nat):Int) ((s.length:Nat):Int)=some (p++(lj r++tail)):=by rw [aKF (by omega),hd1]
  have hst:Stop (lj r++tail):=by
   cases r with
   | nil=>exact ht.stop
   | cons q r=>exact bBh _
  refine Ev.step (fun k=>by rw [iJ]) ?_
  refine Ev.isT rfl ?_
  refine Ev.dT (by omega) ?_
  refine Ev.opt (dX hlt) ?_
  rw [e]
  refine Ev.dT (by decide) ?_
  rw [cX (by omega)]
  refine Ev.opt hsub ?_
  refine Ev.bind (aOW hp.2.2.2.1 hst) ?_
  refine Ev.opt hsub ?_
  refine Ev.opt (bGQ rfl) ?_
  refine Ev.bind (aUO p) ?_
  rw [hp.2.1]
  refine Ev.isT rfl ?_
  refine Ev.bind (aLe p) ?_
  rw [decide_eq_false hp.2.2.1]
  rw [nC (x:=1+((p.length:Nat):Int)) (by omega) (by omega),nC (by omega) (by omega)]
  have nxt:=ih (fun q hq=>hck q (List.mem_cons_of_mem _ hq)) (n+1+p.length) (by rw [← List.drop_drop,hd1]; simp) (by omega)
  have hlj:(lj (p :: r)).length=1+p.length+(lj r).length:=by simp [lj]; omega
  rw [hlj]
  rw [show n+(1+p.length+(lj r).length)=n+1+p.length+(lj r).length by omega,show (n:Int)+(1+((p.length:Nat):Int))=((n+1+p.length:Nat):Int) by omega]
  exact nxt
theorem aC0 {s:List UInt8} (h:∃ p r,s=p++lj r∧mG p=true∧(∀ q∈r,mG q=true)∧s.length≤128):Tk (1,s):=by
 obtain ⟨p,r,rfl,hp,hr,hl⟩:=h
 have q:=aTa hp
 refine ⟨by simp [q.1],aQO q.2.2.2.1.rk (bGi hr),by simp only; omega,fun tail htl ht=>?_⟩
 have hc:=q.2.2.2.2
 have h65:(dc p).1≠65533:=by
  intro e
  rw [e] at hc
  exact absurd hc (by decide)
 have e:dc (p++lj r++tail)=dc p:=by rw [List.append_assoc]; exact bAK _ q.1 h65
 have hst:Stop (lj r++tail):=by
  cases r with
  | nil=>exact ht.stop
  | cons q r=>exact bBh _
 refine ⟨by simp only [e,hc]; decide,?_,?_⟩
 ·obtain ⟨b,w',rfl⟩:∃ b w',p=b :: w':=by cases p with | nil=>exact absurd rfl q.1 | cons b w'=>exact ⟨b,w',rfl⟩
  show (40 == b && _)=false
  rw [show ((40:UInt8) == b)=false from by
   rw [beq_eq_false_iff_ne]
   intro h
   subst h
   rw [zZ (by decide)] at hc
   exact absurd hc (by decide)]; rfl
 ·refine Ev.congr (f:=fun K=>_) ?_ (fun K=>by rw [qP])
  refine Ev.bind (aPl (by simp [q.1])) ?_
  simp only [e]
  refine Ev.bind (xQ _) ?_
  rw [hc]
  refine Ev.dT rfl ?_
  refine Ev.bind (a:=((1:Int),p++lj r,(0:Int),(0:Int),(((p++lj r).length:Nat):Int),true)) ?_ Ev.pure
  refine Ev.congr (f:=fun K=>_) ?_ (fun K=>by rw [aE7])
  have hsp:=aOW q.2.2.2.1 hst
  rw [← List.append_assoc] at hsp
  refine Ev.bind hsp ?_
  have hs:=bGQ (l:=p++lj r++tail) (a:=p) (b:=lj r++tail) (by simp)
  refine Ev.opt hs ?_
  refine Ev.bind (aLe _) ?_
  refine Ev.dF q.2.2.1 ?_
  refine Ev.opt hs ?_
  refine Ev.bind (aUO p) ?_
  rw [q.2.1]
  refine Ev.isT rfl ?_
  refine Ev.opt hs ?_
  refine Ev.bind (aLe p) ?_
  rw [decide_eq_false q.2.2.1]
  simp only [List.length_append] at hl
  have:=bBK (p++lj r++tail) tail ht (by simp; omega) r hr p.length (by simp) (by simp)
  rw [decide_eq_true (by omega),show p.length+(lj r).length=(p++lj r).length by simp,List.take_left] at this
  exact this
theorem bFp (s:List UInt8) (hs:s.length≤1000000):∀ (ws:List Wd),(∀ x∈ws,Tk x)→∀ (i:Nat) (acc:List aI),i≤s.length→acc.length≤i →
  (s.drop i=jt ws→∃ toks,toks.map kt=ws∧(∀ k∈toks,k.2.2.1=nOf (kt k))∧Ev (fun K=>iL K s acc (i:Int)) (acc++toks,0,0))∧(ws≠[]→s.drop i=jn ws→∃ toks,toks.map kt=ws∧(∀ k∈toks,k.2.2.1=nOf (kt k))∧Ev (fun K=>iL K s acc (i:Int)) (acc++toks,0,0)):=by
 intro ws
 induction ws with
 | nil =>
  intro _ i acc hi ha
  refine ⟨fun hd=>⟨[],rfl,(fun k hk=>by cases hk),?_⟩,fun h=>absurd rfl h⟩
  have:=congrArg List.length hd
  rw [List.length_drop] at this
  simp [jt] at this
  refine Ev.step (fun k=>by rw [iL]) (Ev.dF (by omega) (Ev.pure' (by simp)))
 | cons x r ih =>
  intro hx i acc hi ha
  have word:∀ (i:Nat),acc.length≤i→i≤s.length→s.drop i=x.2++jt r→∃ toks,toks.map kt=x :: r∧(∀ k∈toks,k.2.2.1=nOf (kt k))∧Ev (fun K=>iL K s acc (i:Int)) (acc++toks,0,0):=fun i ha hi hd=>by
   obtain ⟨hne,_,hxl,htk⟩:=hx x List.mem_cons_self
   have hlen:=congrArg List.length hd
   rw [List.length_drop,List.length_append] at hlen
   have hpos:1≤x.2.length:=by cases hq:x.2 with | nil=>exact absurd hq hne | cons=>simp
   obtain ⟨h1,h2,h3⟩:=htk (jt r) (by omega) (bGu r)
   obtain ⟨toks,q1,q0,q2⟩:=(ih (fun y hy=>hx y (List.mem_cons_of_mem _ hy)) (i+x.2.length) (acc++[(x.1,x.2,nOf x,(i:Int))]) (by omega) (by simp; omega)).1 (by rw [← List.drop_drop,hd]; simp)
   refine ⟨(x.1,x.2,nOf x,(i:Int)) :: toks,by rw [List.map_cons,q1]; rfl,(fun k hk=>by
    rcases List.mem_cons.1 hk with rfl | hk
    ·rfl
    ·exact q0 k hk),?_⟩
   refine Ev.step (fun k=>by rw [iL]) ?_
   refine Ev.dT (by omega) ?_
   refine Ev.opt (aKF hi) ?_
   rw [hd]
   refine Ev.bind (bEb (by simp [hne]) h1) ?_
   refine Ev.dF (by decide) ?_
   refine Ev.bind (aWy _ _) ?_
   rw [h2]
   refine Ev.isF rfl ?_
   refine Ev.bind h3 ?_
   refine Ev.isF rfl ?_
   refine Ev.step (fun k=>by rw [aB5]) ?_
   refine Ev.opt (cM (by simp; omega)) ?_
   rw [nC (by omega) (by omega),show (i:Int)+((x.2.length:Nat):Int)=((i+x.2.length:Nat):Int) by omega]
   simpa using q2
  refine ⟨fun hd=>?_,fun _ hd=>word i ha hi hd⟩
  have hd':s.drop i=32 :: (x.2++jt r):=hd
  have hlen:=congrArg List.length hd'
  rw [List.length_drop,List.length_cons] at hlen
  have hlt:i<s.length:=by omega
  have hd1:s.drop (i+1)=x.2++jt r:=by
   rw [iP hlt] at hd'
   exact (List.cons.inj hd').2
  obtain ⟨toks,q1,q0,q2⟩:=word (i+1) (by omega) (by omega) hd1
  refine ⟨toks,q1,q0,?_⟩
  obtain ⟨hne,_,hxl,htk⟩:=hx x List.mem_cons_self
  obtain ⟨h1,_,_⟩:=htk (jt r) (by rw [List.length_append] at hlen; omega) (bGu r)
  refine Ev.step (fun k=>by rw [iL]) ?_
  refine Ev.dT (by omega) ?_
  refine Ev.opt (aKF hi) ?_
  rw [hd']
  refine Ev.bind (bCB (by simp [hne]) h1) ?_
  refine Ev.dT (by decide) ?_
  rw [cX (by omega)]
  exact q2
theorem aUM (s:List UInt8):∀ (m i:Nat),s.length - i≤m→Rk (s.drop i)→Ev (fun K=>kJ K s (i:Int)) (0,0):=by
 intro m
 induction m with
 | zero =>
  intro i hm _
  refine Ev.step (fun k=>by rw [kJ]) ?_
  exact Ev.dF (by simp only [Int.toNat_natCast]; omega) Ev.pure
 | succ m ih =>
  intro i hm hr
  refine Ev.step (fun k=>by rw [kJ]) ?_
  simp only [Int.toNat_natCast,sL]
  refine Ev.d (fun h=>?_) (fun h=>Ev.pure)
  have hw:=aEL (s.drop i)
  generalize hq:s.drop i=q at *
  cases hr with
  | nil=>exact absurd hq (aOv h)
  | cons hne ho ht =>
   obtain ⟨o1,o2,o3⟩:=ho
   have nxt:=ih (i+(dc q).2) (by omega) (by rw [← List.drop_drop,hq]; exact ht)
   refine Ev.dF (by omega) ?_
   refine Ev.d (fun h32=>?_) (fun h32=>?_)
   ·refine Ev.bind (xQ _) ?_
    refine Ev.nF (o2 h32) ?_
    exact Ev.dF (by omega) nxt
   ·exact Ev.dF (by omega) nxt
theorem bB5 {s:List UInt8} (h:Rk s) (hl:s.length≤16384):Ev (fun K=>aAL K s) (0,0):=by
 refine Ev.congr (f:=fun K=>_) ?_ (fun K=>by rw [aAL])
 exact Ev.dF (by omega) (aUM s s.length 0 (by omega) h)
theorem bGh:∀ {ws:List Wd},(∀ x∈ws,Tk x)→Rk (jt ws)
 | [],_=>.nil
 | x :: r,h=>aQO (a:=[32]) (aK2 (by decide)) (aQO (h x List.mem_cons_self).2.1 (bGh fun y hy=>h y (List.mem_cons_of_mem _ hy)))
theorem bIg {ws:List Wd} (hne:ws≠[]) (h:∀ x∈ws,Tk x) (hl:(jn ws).length≤16384):∃ toks,toks.map kt=ws∧(∀ k∈toks,k.2.2.1=nOf (kt k))∧Ev (fun K=>rY K (jn ws)) (toks,0,0):=by
 have hr:Rk (jn ws):=by
  cases ws with
  | nil=>exact .nil
  | cons x r=>exact aQO (h x List.mem_cons_self).2.1 (bGh fun y hy=>h y (List.mem_cons_of_mem _ hy))
 obtain ⟨toks,q1,q0,q2⟩:=(bFp (jn ws) (by omega) ws h 0 [] (by omega) (by simp)).2 hne rfl
 refine ⟨toks,q1,q0,?_⟩
 refine Ev.congr (f:=fun K=>_) ?_ (fun K=>by rw [rY])
 refine Ev.bind (bB5 hr hl) ?_
 refine Ev.nF rfl ?_
 simpa using q2
def Gd (x:Wd):Prop:=(x.1=1∧(lgS x.2=true∨mG x.2=true))∨x∈([(3,[45,62]),(3,[42]),(3,[40]),(3,[41]),(3,[109,117]),(3,[123]),(3,[125]),(3,[111,102]),(3,[124]),(3,[105,110,116]),(3,[98,111,111,108]),(3,[117,110,105,116])]:List Wd)
theorem Gd.tk {x:Wd} (h:Gd x):Tk x:=by
 rcases h with ⟨h1,h2⟩ | h
 ·obtain ⟨k,s⟩:=x
  simp only at h1 h2
  subst h1
  rcases h2 with h2 | h2
  ·exact aC0 (aC6 h2)
  ·exact aC0 (bDl h2)
 ·have sg:∀ {b:UInt8} {w:List UInt8},(b.toNat<127∧33≤b.toNat∧b.toNat≠126∧cls ((b.toNat:Nat):Int)=0)→(∀ c∈w,32≤c.toNat∧c.toNat<127)→w.length≤10 →
   (fnd aZp (b :: w)=(3,b :: w,0,0,(((b :: w).length:Nat):Int),true)∧List.isPrefixOf [40,42] (b :: w)=false) →
   (∀ t,fnd aZp (b :: w++32 :: t)=(3,b :: w,0,0,(((b :: w).length:Nat):Int),true)∧List.isPrefixOf [40,42] (b :: w++32 :: t)=false)→Tk (3,b :: w):=fun h1 h2 h3 h4 h5 =>
   aXs h1 h2 h3 fun tail ht=>by
    rcases ht with rfl | ⟨t,rfl⟩
    ·rw [List.append_nil]; exact h4
    ·exact h5 t
  simp only [List.mem_cons,List.not_mem_nil,or_false] at h
  rcases h with rfl | rfl | rfl | rfl | rfl | rfl | rfl | rfl | rfl | rfl | rfl | rfl
  ·exact sg (by decide) (by decide) (by decide) ⟨rfl,rfl⟩ fun t=>⟨rfl,rfl⟩
  ·exact sg (by decide) (by decide) (by decide) ⟨rfl,rfl⟩ fun t=>⟨rfl,rfl⟩
  ·exact sg (by decide) (by decide) (by decide) ⟨rfl,rfl⟩ fun t=>⟨rfl,rfl⟩
  ·exact sg (by decide) (by decide) (by decide) ⟨rfl,rfl⟩ fun t=>⟨rfl,rfl⟩
  ·exact aOj (by decide) (by decide) (by decide) (by decide)
  ·exact sg (by decide) (by decide) (by decide) ⟨rfl,rfl⟩ fun t=>⟨rfl,rfl⟩
  ·exact sg (by decide) (by decide) (by decide) ⟨rfl,rfl⟩ fun t=>⟨rfl,rfl⟩
  ·exact aOj (by decide) (by decide) (by decide) (by decide)
  ·exact sg (by decide) (by decide) (by decide) ⟨rfl,rfl⟩ fun t=>⟨rfl,rfl⟩
  ·exact aOj (by decide) (by decide) (by decide) (by decide)
  ·exact aOj (by decide) (by decide) (by decide) (by decide)
  ·exact aOj (by decide) (by decide) (by decide) (by decide)
end Go.Proofs.YtjhfgiieicloeaaGreatDoor

/- A number's text is told as it is. -/
namespace Go.Proofs.YtjhfgiieicloeaaGreatDoor
open Go Go.Am Go.Sx
def Dg (s:List UInt8):Prop:=∀ b∈s,48≤b.toNat∧b.toNat≤57
theorem aL3:∀ d:Nat,d<10→(dgt d).toNat=48+d:=by decide
theorem bCQ:∀ (b n:Nat),n≤b→Dg (dig n):=by
 intro b
 induction b with
 | zero=>intro n h; rw [xN (by omega)]; intro c hc; rw [List.mem_singleton.1 hc,aL3 n (by omega)]; omega
 | succ b ih =>
  intro n h
  by_cases h10:n<10
  ·rw [xN h10]; intro c hc; rw [List.mem_singleton.1 hc,aL3 n (by omega)]; omega
  ·rw [aPg h10]
   intro c hc
   rcases List.mem_append.1 hc with hc | hc
   ·exact ih (n / 10) (by omega) c hc
   ·rw [List.mem_singleton.1 hc,aL3 _ (by omega)]; omega
theorem bE1 (v:Int) (s:List UInt8) (b:UInt8):fv v (s++[b])=10 * fv v s+((b.toNat:Int) - 48):=by unfold fv; rw [List.foldl_append]; rfl
theorem bCJ:∀ (b n:Nat),n≤b→fv 0 (dig n)=(n:Int):=by
 intro b
 induction b with
 | zero=>intro n h; rw [xN (by omega)]; show 10 * (0:Int)+(((dgt n).toNat:Int) - 48)=n; rw [aL3 n (by omega)]; omega
 | succ b ih =>
  intro n h
  by_cases h10:n<10
  ·rw [xN h10]; show 10 * (0:Int)+(((dgt n).toNat:Int) - 48)=n; rw [aL3 n (by omega)]; omega
  ·rw [aPg h10,bE1,ih (n / 10) (by omega),aL3 _ (by omega)]; omega
theorem bGl:∀ (s:List UInt8) (v:Int),0≤v→Dg s→v≤fv v s
 | [],v,_,_=>Int.le_refl _
 | b :: s,v,h,hd=>by
  have hb:=hd b List.mem_cons_self
  have:=bGl s (10 * v+((b.toNat:Int) - 48)) (by omega) (fun c hc=>hd c (List.mem_cons_of_mem _ hc))
  show v≤fv (10 * v+((b.toNat:Int) - 48)) s
  omega
theorem aYV (s:List UInt8) (neg len:Int) (hl:s.length≤1000):∀ (m i:Nat) (v r:Int),s.length=i+m→0≤v→Dg (s.drop i)→fv v (s.drop i)≤1073741824→r=(if neg=1 then -(fv v (s.drop i)) else fv v (s.drop i))→Ev (fun K=>lC K neg len v s (i:Int)) (2,aA8 r,r,0,len,true):=by
 intro m
 induction m with
 | zero =>
  intro i v r hi hv _ hf hr
  have e:s.drop i=[]:=List.drop_of_length_le (by omega)
  rw [e] at hf hr
  have hf:v≤1073741824:=hf
  have hr:r=if neg=1 then -v else v:=hr
  refine Ev.step (fun k=>by rw [lC]) ?_
  refine Ev.dF (by simp; omega) ?_
  refine Ev.d (fun h=>?_) (fun h=>?_)
  ·rw [if_pos h] at hr
   rw [nC (by omega) (by omega),show 0 - v=r by omega]
   exact Ev.bind (aOf r (by omega)) Ev.pure
  ·rw [if_neg h] at hr
   subst hr
   exact Ev.bind (aOf r (by omega)) Ev.pure
 | succ m ih =>
  intro i v r hi hv hd hf hr
  have hlt:i<s.length:=by omega
  have hd0:=iP hlt
  rw [hd0] at hd hf hr
  have hb:=hd _ List.mem_cons_self
  have hd':Dg (s.drop (i+1)):=fun c hc=>hd c (List.mem_cons_of_mem _ hc)
  have hg:=bGl (s.drop (i+1)) (10 * v+((s[i].toNat:Int) - 48)) (by omega) hd'
  have hf:fv (10 * v+((s[i].toNat:Int) - 48)) (s.drop (i+1))≤1073741824:=hf
  have hr:r=if neg=1 then -(fv (10 * v+((s[i].toNat:Int) - 48)) (s.drop (i+1))) else fv (10 * v+((s[i].toNat:Int) - 48)) (s.drop (i+1)):=hr
  refine Ev.step (fun k=>by rw [lC]) ?_
  simp only [Int.toNat_natCast,sL]
  rw [hd0,zZ (by omega)]
  refine Ev.dT (by omega) ?_
  rw [wrap32 (x:=((s[i].toNat:Nat):Int) - 48) (by omega) (by omega),nC (x:=10 * v) (by omega) (by omega),nC (x:=((s[i].toNat:Nat):Int) - 48) (by omega) (by omega),nC (x:=10 * v+(((s[i].toNat:Nat):Int) - 48)) (by omega) (by omega)]
  refine Ev.dF (by omega) ?_
  exact ih (i+1) _ r (by omega) (by omega) hd' hf hr
theorem aYj (r:Int):Ev (fun K=>wT K r) (decide (cls r=2)):=by
 refine Ev.congr (f:=fun K=>_) ?_ (fun K=>by rw [wT])
 exact Ev.bind (xQ r) Ev.pure
theorem bAM {b:UInt8} (h:48≤b.toNat∧b.toNat≤57):cls ((b.toNat:Nat):Int)=2:=by
 unfold cls; rw [if_neg (by omega),if_pos (by omega)]
theorem aVN (s:List UInt8):∀ (p:List UInt8),Dg p→∀ (i:Nat) (tail:List UInt8),s.drop i=p++tail→Bl tail→i≤s.length→Ev (fun K=>lA K s s (i:Int)) ((i+p.length:Nat):Int):=by
 intro p
 induction p with
 | nil =>
  intro _ i tail hd hst hi
  refine Ev.step (fun k=>by rw [lA]) ?_
  simp only [Int.toNat_natCast,sL]
  rcases hst with e | ⟨r,e⟩
  ·rw [e] at hd
   have:=congrArg List.length hd
   rw [List.length_drop] at this
   simp at this
   exact Ev.dF (by omega) (Ev.pure' (by simp; omega))
  ·rw [e] at hd
   have:=congrArg List.length hd
   rw [List.length_drop] at this
   simp at this
   refine Ev.dT (by omega) ?_
   rw [hd,List.nil_append,zZ (by decide)]
   refine Ev.bind (aYj _) ?_
   exact Ev.isT (by decide) (Ev.pure' (by simp))
 | cons b p ih =>
  intro hdg i tail hd hst hi
  have hb:=hdg b List.mem_cons_self
  have:=congrArg List.length hd
  rw [List.length_drop] at this
  simp at this
  refine Ev.step (fun k=>by rw [lA]) ?_
  simp only [Int.toNat_natCast,sL]
  refine Ev.dT (by omega) ?_
  rw [hd,List.cons_append,zZ (by omega)]
  refine Ev.bind (aYj _) ?_
  rw [bAM hb]
  refine Ev.isF rfl ?_
  have nxt:=ih (fun c hc=>hdg c (List.mem_cons_of_mem _ hc)) (i+1) tail (by rw [← List.drop_drop,hd]; rfl) hst (by omega)
  rw [List.length_cons,show i+(p.length+1)=i+1+p.length by omega]
  exact nxt
theorem bDT {p tail:List UInt8} (hp:Dg p) (ht:Bl tail):Ev (fun K=>aBu K (p++tail)) ((p.length:Nat):Int):=by
 refine Ev.congr (f:=fun K=>_) ?_ (fun K=>by rw [aBu])
 have:=aVN (p++tail) p hp 0 tail rfl ht (by omega)
 simpa using this
theorem aWf {pre p tail:List UInt8} (hpre:pre.length=0∨pre.length=1) (hp:Dg p) (h0:p≠[]) (hl:p.length≤900) (htl:tail.length≤1000000) (ht:Bl tail) (hf:fv 0 p≤1073741824) {r:Int} (hr:r=if (pre.length:Int)=1 then -(fv 0 p) else fv 0 p) :
  Ev (fun K=>lB K (pre++p++tail) (pre.length:Int)) (2,aA8 r,r,0,((pre.length+p.length:Nat):Int),true):=by
 have hpos:1≤p.length:=by cases p with | nil=>exact absurd rfl h0 | cons=>simp
 have hlen:(pre++p++tail).length=pre.length+p.length+tail.length:=by simp; omega
 have d1:(pre++p++tail).drop pre.length=p++tail:=by rw [List.append_assoc,List.drop_left]
 have d2:(pre++p++tail).drop (pre.length+p.length)=tail:=by rw [← List.drop_drop,d1,List.drop_left]
 refine Ev.step (fun k=>by rw [lB]) ?_
 refine Ev.opt (aKF (by omega)) ?_
 rw [d1]
 refine Ev.bind (bDT hp ht) ?_
 rw [nC (by omega) (by omega),show (pre.length:Int)+(p.length:Int)=((pre.length+p.length:Nat):Int) by omega]
 refine Ev.dF (by omega) ?_
 refine Ev.opt (aKF (by omega)) ?_
 rw [d2]
 have sp:=aOW (p:=[]) (tail:=tail) .nil ht.stop
 rw [List.nil_append] at sp
 refine Ev.bind sp ?_
 refine Ev.dF (by decide) ?_
 have sb:=xO (l:=pre++p++tail) (a:=pre.length) (b:=pre.length+p.length) (by omega) (by omega)
 rw [show ((pre++p++tail).take (pre.length+p.length)).drop pre.length=p by
  rw [List.take_left' (by simp)]; simp] at sb
 refine Ev.opt sb ?_
 have:=aYV p (pre.length:Int) ((pre.length+p.length:Nat):Int) (by omega) p.length 0 0 r (by omega) (by omega) (by rw [List.drop_zero]; exact hp) (by rw [List.drop_zero]; exact hf) (by rw [List.drop_zero]; exact hr)
 exact this
theorem aOJ {s:List UInt8} {v:bIF} (hs:s≠[]) (hc:cls (((dc s).1:Nat):Int)=2∨(cls (((dc s).1:Nat):Int)=0∧∃ t,s=126 :: t)) (h:Ev (fun K=>tA K s) v):Ev (fun K=>qP K s) v:=by
 refine Ev.congr (f:=fun K=>_) ?_ (fun K=>by rw [qP])
 refine Ev.bind (aPl hs) ?_
 refine Ev.bind (xQ _) ?_
 obtain ⟨a1,a2,a3,a4,a5,a6⟩:=v
 rcases hc with hc | ⟨hc,t,rfl⟩
 ·rw [hc]
  refine Ev.dF (by decide) (Ev.dT rfl ?_)
  exact Ev.bind h Ev.pure
 ·rw [hc]
  refine Ev.dF (by decide) (Ev.dF (by decide) ?_)
  refine Ev.opt (a:=126) rfl ?_
  refine Ev.dT (by decide) ?_
  exact Ev.bind h Ev.pure
theorem aSL {n:Int}:nOf (2,aA8 n)=n:=by
 have fd:=bCJ n.natAbs n.natAbs (Nat.le_refl _)
 have hd:=bCQ n.natAbs n.natAbs (Nat.le_refl _)
 have hp:=(bBf n.natAbs n.natAbs (Nat.le_refl _)).2
 unfold nOf aA8
 rw [if_pos rfl]
 by_cases h0:n<0
 ·rw [if_pos h0]
  show (if (126:UInt8)=126 then -(fv 0 (dig n.natAbs)) else _)=n
  rw [if_pos rfl,fd]; omega
 ·rw [if_neg h0]
  show (if ([]++dig n.natAbs).headD 0=126 then _ else fv 0 ([]++dig n.natAbs))=n
  rw [List.nil_append]
  cases hq:dig n.natAbs with
  | nil=>rw [hq] at hp; simp at hp
  | cons b t =>
   rw [hq] at hd fd
   have hb:=hd b List.mem_cons_self
   rw [if_neg (by
    show ¬ b=126
    intro e; subst e; exact absurd hb.2 (by decide)),fd]
   omega
theorem bHP {n:Int} (h:-1073741824≤n∧n≤1073741824):Tk (2,aA8 n):=by
 have fd:=bCJ n.natAbs n.natAbs (Nat.le_refl _)
 have hd:=bCQ n.natAbs n.natAbs (Nat.le_refl _)
 have hp:=(bBf n.natAbs n.natAbs (Nat.le_refl _)).2
 have h13:=aWg (n:=n.natAbs) (by omega)
 have hl:=aYE (n:=n) (by omega)
 have hne:dig n.natAbs≠[]:=fun e=>by rw [e] at hp; simp at hp
 refine ⟨fun e=>?_,aK2 fun c hc=>?_,by simp only; omega,fun tail htl ht=>?_⟩
 ·have e:aA8 n=[]:=e
  unfold aA8 at e
  exact hne (List.append_eq_nil_iff.1 e).2
 ·have hc:c∈aA8 n:=hc
  unfold aA8 at hc
  rcases List.mem_append.1 hc with hc | hc
  ·by_cases h0:n<0
   ·rw [if_pos h0] at hc; rw [List.mem_singleton.1 hc]; decide
   ·rw [if_neg h0] at hc; cases hc
  ·have:=hd c hc; omega
 ·rw [aSL]
  simp only
  by_cases h0:n<0
  ·have e:aA8 n++tail=126 :: (dig n.natAbs++tail):=by unfold aA8; rw [if_pos h0]; rfl
   have e1:dc (aA8 n++tail)=(126,1):=by rw [e]; exact zZ (by decide)
   refine ⟨by rw [e1]; decide,by rw [e]; rfl,?_⟩
   have core:=aWf (pre:=[126]) (p:=dig n.natAbs) (tail:=tail) (.inr rfl) hd hne (by omega) htl ht (by rw [fd]; omega) (r:=n) (by rw [fd]; show n=if (1:Int)=1 then _ else _; rw [if_pos rfl]; omega)
   have len:((aA8 n).length:Nat)=([126]:List UInt8).length+(dig n.natAbs).length:=by unfold aA8; rw [if_pos h0,List.length_append]
   rw [len]
   refine aOJ (by rw [e]; simp) (.inr ⟨by rw [e1]; decide,_,e⟩) ?_
   refine Ev.congr (f:=fun K=>_) ?_ (fun K=>by rw [tA])
   rw [e]
   refine Ev.opt (a:=126) rfl ?_
   refine Ev.dT (by decide) ?_
   exact core
  ·have e:aA8 n=dig n.natAbs:=by unfold aA8; rw [if_neg h0]; rfl
   obtain ⟨b,t,hq⟩:∃ b t,dig n.natAbs=b :: t:=by
    cases hq:dig n.natAbs with
    | nil=>exact absurd hq hne
    | cons b t=>exact ⟨b,t,rfl⟩
   have hb:=hd b (by rw [hq]; exact List.mem_cons_self)
   have e1:dc (aA8 n++tail)=(b.toNat,1):=by rw [e,hq]; exact zZ (by omega)
   have hb40:((40:UInt8) == b)=false:=by
    rw [beq_eq_false_iff_ne]; intro h; rw [← h] at hb; exact absurd hb.1 (by decide)
   refine ⟨by rw [e1]; simp only [bAM hb]; decide,by rw [e,hq]; show ((40:UInt8) == b && _)=false; rw [hb40]; rfl,?_⟩
   have core:=aWf (pre:=[]) (p:=dig n.natAbs) (tail:=tail) (.inl rfl) hd hne (by omega) htl ht (by rw [fd]; omega) (r:=n) (by rw [fd]; show n=if (0:Int)=1 then _ else _; rw [if_neg (by decide)]; omega)
   have core':Ev (fun K=>lB K (aA8 n++tail) 0) (2,aA8 n,n,0,(((aA8 n).length:Nat):Int),true):=by
    rw [List.nil_append,← e] at core
    simpa using core
   refine aOJ (by rw [e,hq]; simp) (.inl (by rw [e1]; exact bAM hb)) ?_
   refine Ev.congr (f:=fun K=>_) ?_ (fun K=>by rw [tA])
   have g0:aU (aA8 n++tail) 0=some b:=by rw [e,hq]; rfl
   refine Ev.opt g0 ?_
   refine Ev.dF (by omega) ?_
   exact core'
end Go.Proofs.YtjhfgiieicloeaaGreatDoor

/- Expressions as words, and the parser on them. -/
namespace Go.Proofs.YtjhfgiieicloeaaGreatDoor
open Go Go.Am Go.Sx
def Nk (l:List aI):Prop:=∀ k∈l,k.2.2.1=nOf (kt k)
def sW (m:List Wd):Bool:=match m with
 | x :: _=>if x.1=3 then decide (x.2=[116,114,117,101]) || (decide (x.2=[102,97,108,115,101]) || (decide (x.2=[40]) || (decide (x.2=[35,49]) || decide (x.2=[35,50]))))
  else if x.1=2 then decide (-1073741824≤nOf x) && decide (nOf x≤1073741824) else decide (x.1=1) && lgS x.2
 | []=>false
theorem bAZ {l:List aI} {i:Int} {k:aI} (h:aJI l i=some k):k∈l:=by
 by_cases hi:0≤i∧i<(l.length:Int)
 ·obtain ⟨k',hm,_,hk⟩:=aFm hi
  rw [h] at hk; cases hk; exact hm
 ·rw [aBZ hi] at h; cases h
theorem At.start {l:List aI} {i:Nat} {m:List Wd} (hn:Nk l) (h:At l i m):stS l i=sW m:=by
 cases m with
 | nil=>unfold stS sW; rw [h.none]
 | cons x m =>
  obtain ⟨k,h1,h2⟩:=h.tok
  have h3:=hn k (bAZ h1)
  rw [h2] at h3
  have e1:k.1=x.1:=congrArg Prod.fst h2
  have e2:k.2.1=x.2:=congrArg Prod.snd h2
  unfold stS sW
  rw [h1]
  simp only [e1,e2,h3]
theorem At.len {l:List aI} {i:Nat} {w R:List Wd} (h:At l i (w++R)):w.length≤l.length:=by
 unfold At at h
 have:=congrArg List.length h
 rw [List.length_drop,List.length_map,List.length_append] at this
 omega
theorem ks1 {l:List aI} {i:Nat} {s:List UInt8} {r:List (List UInt8)} {R:List Wd} (h:At l i ((3,s) :: R)):ks l (s :: r) i=ks l r (i+1):=by
 rw [ks,h.key,iR,decide_eq_true rfl,if_pos rfl]
theorem ks0 {l:List aI} {i:Nat}:ks l [] i=((),i,0):=by rw [ks]
theorem nm1 {l:List aI} {i:Nat} {s:List UInt8} {R:List Wd} (h:At l i ((1,s) :: R)) (hc:mG s=true):nmR l i=(s,i+1,0):=by
 have e:nW ((1,s) :: R)=(s,true):=if_pos (c:=(1:Int)=1∧mG s=true) ⟨rfl,hc⟩
 unfold nmR
 rw [h.name,e]
 rfl
theorem ty1 {l:List aI} {i:Nat} {t:Tr} {w R:List Wd} (hp:Pa0 t w) (h:At l i (w++R)) (h1:kW R [42]=false) (h2:kW R [45,62]=false):tyR l i=(t,i+w.length,0):=by
 have:=h.len
 exact hp l i _ R h h1 h2 (by omega)
structure St (R:List Wd):Prop where
 s:sW R=false
 m:kW R [42]=false
 p:kW R [43]=false
 n:kW R [45]=false
 e:kW R [61]=false
 l:kW R [60]=false
theorem bHL:St []:=⟨rfl,rfl,rfl,rfl,rfl,rfl⟩
theorem sW3 {s:List UInt8} {R:List Wd}:sW ((3,s) :: R)=(decide (s=[116,114,117,101]) || (decide (s=[102,97,108,115,101]) || (decide (s=[40]) || (decide (s=[35,49]) || decide (s=[35,50]))))):=by
 unfold sW
 simp only [if_true]
theorem sW2 {s:List UInt8} {R:List Wd}:sW ((2,s) :: R)=(decide (-1073741824≤nOf (2,s)) && decide (nOf (2,s)≤1073741824)):=rfl
theorem sW1 {s:List UInt8} {R:List Wd}:sW ((1,s) :: R)=lgS s:=rfl
theorem aDE {s:List UInt8} (R:List Wd) (h:s∉[[116,114,117,101],[102,97,108,115,101],[40],[35,49],[35,50],[42],[43],[45],[61],[60]]):St ((3,s) :: R):=by
 simp only [List.mem_cons,not_or,List.not_mem_nil] at h
 obtain ⟨h1,h2,h3,h4,h5,h6,h7,h8,h9,h10,_⟩:=h
 refine ⟨?_,?_,?_,?_,?_,?_⟩
 ·rw [sW3,decide_eq_false h1,decide_eq_false h2,decide_eq_false h3,decide_eq_false h4,decide_eq_false h5]; rfl
 all_goals rw [iR]
 ·exact decide_eq_false h6
 ·exact decide_eq_false h7
 ·exact decide_eq_false h8
 ·exact decide_eq_false h9
 ·exact decide_eq_false h10
def A5 (t:Tr) (w:List Wd):Prop:=∀ (l:List aI) (i n:Nat) (R:List Wd),Nk l→At l i (w++R)→8 * w.length+1≤n→pA l n i=(t,i+w.length,0)
def A4 (t:Tr) (w:List Wd):Prop:=∀ (l:List aI) (i n:Nat) (R:List Wd),Nk l→At l i (w++R)→8 * w.length+2≤n→∃ m,n≤m+w.length∧aJX l n i=aFR l m t (i+w.length)
def A3 (t:Tr) (w:List Wd):Prop:=∀ (l:List aI) (i n:Nat) (R:List Wd),Nk l→At l i (w++R)→sW R=false→8 * w.length+3≤n→∃ m,n≤m+w.length∧xU l n i=aAw l m t (i+w.length)
def A2 (t:Tr) (w:List Wd):Prop:=∀ (l:List aI) (i n:Nat) (R:List Wd),Nk l→At l i (w++R)→sW R=false→kW R [42]=false→8 * w.length+4≤n→∃ m,n≤m+w.length∧aF9 l n i=aDT l m t (i+w.length)
def A1 (t:Tr) (w:List Wd):Prop:=∀ (l:List aI) (i n:Nat) (R:List Wd),Nk l→At l i (w++R)→St R→8 * w.length+5≤n→aSm l n i=(t,i+w.length,0)
def A0 (t:Tr) (w:List Wd):Prop:=∀ (l:List aI) (i n:Nat) (R:List Wd),Nk l→At l i (w++R)→St R→8 * w.length+6≤n→fD l n i=(t,i+w.length,0)
theorem aVZ {l:List aI} {m i:Nat} {t:Tr} {R:List Wd} (hn:Nk l) (h:At l i R) (hs:sW R=false) (hm:1≤m):aFR l m t i=(t,i,0):=by
 obtain ⟨m,rfl⟩:∃ q,m=q+1:=⟨m - 1,by omega⟩
 rw [aFR,h.start hn,hs,if_neg (by simp)]
theorem aUD {l:List aI} {m i:Nat} {t:Tr} {R:List Wd} (h:At l i R) (hs:kW R [42]=false) (hm:1≤m):aAw l m t i=(t,i,0):=by
 obtain ⟨m,rfl⟩:∃ q,m=q+1:=⟨m - 1,by omega⟩
 rw [aAw,h.key,hs,if_neg (by simp)]
theorem bCd {l:List aI} {m i:Nat} {t:Tr} {R:List Wd} (h:At l i R) (hp:kW R [43]=false) (hs:kW R [45]=false) (hm:1≤m):aDT l m t i=(t,i,0):=by
 obtain ⟨m,rfl⟩:∃ q,m=q+1:=⟨m - 1,by omega⟩
 rw [aDT,h.key,hp,if_neg (by simp),h.key,hs,if_neg (by simp)]
section
variable {t:Tr} {w:List Wd} (hw:w≠[])
include hw
theorem A5.to4 (h:A5 t w):A4 t w:=fun l i n R hn ha hm=>by
 have hl:1≤w.length:=by cases w with | nil=>exact absurd rfl hw | cons=>simp
 obtain ⟨n,rfl⟩:∃ q,n=q+1:=⟨n - 1,by omega⟩
 exact ⟨n,by omega,by rw [aJX,h l i n R hn ha (by omega),aO]⟩
theorem A4.to3 (h:A4 t w):A3 t w:=fun l i n R hn ha hs hm=>by
 have hl:1≤w.length:=by cases w with | nil=>exact absurd rfl hw | cons=>simp
 obtain ⟨n,rfl⟩:∃ q,n=q+1:=⟨n - 1,by omega⟩
 obtain ⟨m,h1,h2⟩:=h l i n R hn ha (by omega)
 exact ⟨n,by omega,by rw [xU,h2,aVZ hn ha.app hs (by omega),aO]⟩
theorem A3.to2 (h:A3 t w):A2 t w:=fun l i n R hn ha hs hk hm=>by
 have hl:1≤w.length:=by cases w with | nil=>exact absurd rfl hw | cons=>simp
 obtain ⟨n,rfl⟩:∃ q,n=q+1:=⟨n - 1,by omega⟩
 obtain ⟨m,h1,h2⟩:=h l i n R hn ha hs (by omega)
 exact ⟨n,by omega,by rw [aF9,h2,aUD ha.app hk (by omega),aO]⟩
theorem A2.fin (h:A2 t w) {l:List aI} {i n:Nat} {R:List Wd} (hn:Nk l) (ha:At l i (w++R)) (hs:sW R=false) (hm:kW R [42]=false) (hp:kW R [43]=false) (hq:kW R [45]=false) (hf:8 * w.length+4≤n):aF9 l n i=(t,i+w.length,0):=by
 have hl:1≤w.length:=by cases w with | nil=>exact absurd rfl hw | cons=>simp
 obtain ⟨m,h1,h2⟩:=h l i n R hn ha hs hm hf
 rw [h2,bCd ha.app hp hq (by omega)]
theorem A2.to1 (h:A2 t w):A1 t w:=fun l i n R hn ha hs hm=>by
 obtain ⟨n,rfl⟩:∃ q,n=q+1:=⟨n - 1,by omega⟩
 rw [aSm,h.fin hw hn ha hs.s hs.m hs.p hs.n (by omega),aO]
 rw [ha.app.key,hs.e,if_neg (by simp),ha.app.key,hs.l,if_neg (by simp)]
theorem bC0 (R:List Wd):sW (w++R)=sW w:=by cases w with | nil=>exact absurd rfl hw | cons=>rfl
theorem bAe (R:List Wd) (s:List UInt8):kW (w++R) s=kW w s:=by cases w with | nil=>exact absurd rfl hw | cons=>rfl
omit hw in
theorem bC3 {s:List UInt8} (h:sW w=true) (hs:s∉[[116,114,117,101],[102,97,108,115,101],[40],[35,49],[35,50]]):kW w s=false:=by
 cases w with
 | nil=>rfl
 | cons x r =>
  have h:(if x.1=3 then decide (x.2=[116,114,117,101]) || (decide (x.2=[102,97,108,115,101]) || (decide (x.2=[40]) || (decide (x.2=[35,49]) || decide (x.2=[35,50])))) else if x.1=2 then decide (-1073741824≤nOf x) && decide (nOf x≤1073741824) else decide (x.1=1) && lgS x.2)=true:=h
  show (decide (x.1=3) && decide (x.2=s))=false
  by_cases h3:x.1=3
  ·rw [if_pos h3] at h
   rw [decide_eq_true h3,Bool.true_and]
   refine decide_eq_false fun e=>hs ?_
   rw [← e]
   simp only [Bool.or_eq_true,decide_eq_true_eq] at h
   simpa using h
  ·rw [decide_eq_false h3,Bool.false_and]
theorem A1.to0 (h:A1 t w) (hst:sW w=true):A0 t w:=fun l i n R hn ha hs hm=>by
 obtain ⟨n,rfl⟩:∃ q,n=q+1:=⟨n - 1,by omega⟩
 have k:∀ s,s∉[[116,114,117,101],[102,97,108,115,101],[40],[35,49],[35,50]]→bE l (i:Int) s=false:=fun s hs=>by
  rw [ha.key,bAe hw,bC3 hst hs]
 rw [fD,k _ (by decide),if_neg (by simp),k _ (by decide),if_neg (by simp),k _ (by decide),if_neg (by simp),k _ (by decide),if_neg (by simp),k _ (by decide),if_neg (by simp)]
 exact h l i n R hn ha hs (by omega)
theorem A0.paren (h:A0 t w) (h41:kW w [41]=false):A5 t ((3,[40]) :: (w++[(3,[41])])):=fun l i n R hn ha hm=>by
 obtain ⟨n,rfl⟩:∃ q,n=q+1:=⟨n - 1,by omega⟩
 simp only [List.length_cons,List.length_append,List.length_nil] at hm
 have ha:At l i ((3,[40]) :: (w++((3,[41]) :: R))):=by simpa using ha
 obtain ⟨k,h1,h2⟩:=ha.tok
 have e1:k.1=3:=congrArg Prod.fst h2
 have e2:k.2.1=[40]:=congrArg Prod.snd h2
 have hx:=ha.next
 rw [pA,ha.start hn,sW3,if_pos (by decide),h1]
 dsimp only
 rw [e1,e2]
 rw [if_neg (by decide),if_neg (by decide),if_neg (by decide),if_neg (by decide),if_neg (by decide),if_neg (by decide),hx.key,bAe hw,h41,if_neg (by simp)]
 rw [h l (i+1) n _ hn hx (aDE _ (by decide)) (by omega),aO]
 rw [hx.app.key,iR,decide_eq_false (by decide),if_neg (by simp),ks1 hx.app,ks0,aO]
 simp only [List.length_cons,List.length_append,List.length_nil]
 rw [show i+1+w.length+1=i+(w.length+(0+1)+1) by omega]
end
/-! ### the forms -/
theorem bJk {n:Int} (h:-1073741824≤n∧n≤1073741824):A5 (.node 20 n [] [] []) [(2,aA8 n)]:=fun l i m R hn ha hm=>by
 obtain ⟨m,rfl⟩:∃ q,m=q+1:=⟨m - 1,by omega⟩
 have ha:At l i ((2,aA8 n) :: R):=ha
 obtain ⟨k,h1,h2⟩:=ha.tok
 have h3:=hn k (bAZ h1)
 rw [h2,aSL] at h3
 have e1:k.1=2:=congrArg Prod.fst h2
 have hs:sW ((2,aA8 n) :: R)=true:=by
  rw [sW2,aSL,decide_eq_true h.1,decide_eq_true h.2]; rfl
 rw [pA,ha.start hn,hs,if_pos rfl,h1]
 dsimp only
 rw [e1,h3,if_pos rfl]
 rfl
theorem bJx {s:List UInt8} (h:lgS s=true):A5 (.node 23 0 s [] []) [(1,s)]:=fun l i m R hn ha hm=>by
 obtain ⟨m,rfl⟩:∃ q,m=q+1:=⟨m - 1,by omega⟩
 have ha:At l i ((1,s) :: R):=ha
 obtain ⟨k,h1,h2⟩:=ha.tok
 have e1:k.1=1:=congrArg Prod.fst h2
 have e2:k.2.1=s:=congrArg Prod.snd h2
 have hs:sW ((1,s) :: R)=true:=by
  rw [sW1,h]
 rw [pA,ha.start hn,hs,if_pos rfl,h1]
 dsimp only
 rw [e1,e2]
 rw [if_neg (by decide),if_pos rfl]
 rfl
theorem bGO {n:Int} (h:n=0∨n=1):A5 (.node 21 n [] [] []) [(3,aPT n)]:=fun l i m R hn ha hm=>by
 obtain ⟨m,rfl⟩:∃ q,m=q+1:=⟨m - 1,by omega⟩
 have ha:At l i ((3,aPT n) :: R):=ha
 obtain ⟨k,h1,h2⟩:=ha.tok
 have e1:k.1=3:=congrArg Prod.fst h2
 have e2:k.2.1=aPT n:=congrArg Prod.snd h2
 rw [pA,ha.start hn,sW3]
 rcases h with rfl | rfl
 ·rw [if_pos (by decide),h1]
  dsimp only
  rw [e1,e2]
  rw [if_neg (by decide),if_neg (by decide),if_neg (by decide),if_pos (by decide)]
  rfl
 ·rw [if_pos (by decide),h1]
  dsimp only
  rw [e1,e2]
  rw [if_neg (by decide),if_neg (by decide),if_pos (by decide)]
  rfl
theorem bH3:A5 (.node 22 0 [] [] []) [(3,[40]),(3,[41])]:=fun l i m R hn ha hm=>by
 obtain ⟨m,rfl⟩:∃ q,m=q+1:=⟨m - 1,by omega⟩
 have ha:At l i ((3,[40]) :: ((3,[41]) :: R)):=ha
 obtain ⟨k,h1,h2⟩:=ha.tok
 have e1:k.1=3:=congrArg Prod.fst h2
 have e2:k.2.1=[40]:=congrArg Prod.snd h2
 rw [pA,ha.start hn,sW3,if_pos (by decide),h1]
 dsimp only
 rw [e1,e2]
 rw [if_neg (by decide),if_neg (by decide),if_neg (by decide),if_neg (by decide),if_neg (by decide),if_neg (by decide),ha.next.key,iR,decide_eq_true rfl,if_pos rfl]
 rfl
section
variable {a b c:Tr} {wa wb wc:List Wd}
theorem bGd {s:List UInt8} {kd:Int} (hs:(s=[35,49]∧kd=27)∨(s=[35,50]∧kd=28)) (ha:A5 a wa):A5 (.node kd 0 [] [] [a]) ((3,s) :: wa):=fun l i m R hn hat hm=>by
 obtain ⟨m,rfl⟩:∃ q,m=q+1:=⟨m - 1,by omega⟩
 simp only [List.length_cons] at hm
 have hat:At l i ((3,s) :: (wa++R)):=hat
 obtain ⟨k,h1,h2⟩:=hat.tok
 have e1:k.1=3:=congrArg Prod.fst h2
 have e2:k.2.1=s:=congrArg Prod.snd h2
 have hr:=ha l (i+1) m R hn hat.next (by omega)
 rw [pA,hat.start hn,sW3]
 rcases hs with ⟨rfl,rfl⟩ | ⟨rfl,rfl⟩
 ·rw [if_pos (by decide),h1]
  dsimp only
  rw [e1,e2]
  rw [if_neg (by decide),if_neg (by decide),if_neg (by decide),if_neg (by decide),if_pos rfl,hr,aO,List.length_cons,show i+1+wa.length=i+(wa.length+1) by omega]
 ·rw [if_pos (by decide),h1]
  dsimp only
  rw [e1,e2]
  rw [if_neg (by decide),if_neg (by decide),if_neg (by decide),if_neg (by decide),if_neg (by decide),if_pos rfl,hr,aO,List.length_cons,show i+1+wa.length=i+(wa.length+1) by omega]
theorem bIo (hwa:wa≠[]) (h41:kW wa [41]=false) (ha:A0 a wa) (hb:A0 b wb):A5 (.node 26 0 [] [] [a,b]) ((3,[40]) :: (wa++(3,[44]) :: (wb++[(3,[41])]))):=fun l i n R hn hat hm=>by
 obtain ⟨n,rfl⟩:∃ q,n=q+1:=⟨n - 1,by omega⟩
 simp only [List.length_cons,List.length_append,List.length_nil] at hm
 have hat:At l i ((3,[40]) :: (wa++((3,[44]) :: (wb++((3,[41]) :: R))))):=by simpa using hat
 obtain ⟨k,h1,h2⟩:=hat.tok
 have e1:k.1=3:=congrArg Prod.fst h2
 have e2:k.2.1=[40]:=congrArg Prod.snd h2
 have hx:=hat.next
 rw [pA,hat.start hn,sW3,if_pos (by decide),h1]
 dsimp only
 rw [e1,e2]
 rw [if_neg (by decide),if_neg (by decide),if_neg (by decide),if_neg (by decide),if_neg (by decide),if_neg (by decide),hx.key,bAe hwa,h41,if_neg (by simp)]
 rw [ha l (i+1) n _ hn hx (aDE _ (by decide)) (by omega),aO]
 have hy:=hx.app
 rw [hy.key,iR,decide_eq_true rfl,if_pos rfl]
 rw [hb l _ n _ hn hy.next (aDE _ (by decide)) (by omega),aO]
 rw [ks1 hy.next.app,ks0,aO]
 simp only [List.length_cons,List.length_append,List.length_nil]
 rw [show i+1+wa.length+1+wb.length+1=i+(wa.length+(wb.length+(0+1)+1)+1) by omega]
theorem bIQ (ha:A4 a wa) (hb:A5 b wb) (hwb:wb≠[]) (hsb:sW wb=true):A4 (.node 25 0 [] [] [a,b]) (wa++wb):=fun l i n R hn hat hm=>by
 have hl:1≤wb.length:=by cases wb with | nil=>exact absurd rfl hwb | cons=>simp
 rw [List.length_append] at hm
 rw [List.append_assoc] at hat
 obtain ⟨m,h1,h2⟩:=ha l i n _ hn hat (by omega)
 obtain ⟨m,rfl⟩:∃ q,m=q+1:=⟨m - 1,by omega⟩
 refine ⟨m,by rw [List.length_append]; omega,?_⟩
 rw [h2,aFR,hat.app.start hn,bC0 hwb,hsb,if_pos rfl,hb l _ m R hn hat.app (by omega),aO,List.length_append,Nat.add_assoc]
theorem bJe (ha:A3 a wa) (hb:A4 b wb) (hwb:wb≠[]):A3 (.node 31 3 [] [] [a,b]) (wa++(3,[42]) :: wb):=fun l i n R hn hat hs hm=>by
 have hl:1≤wb.length:=by cases wb with | nil=>exact absurd rfl hwb | cons=>simp
 rw [List.length_append,List.length_cons] at hm
 have hat:At l i (wa++((3,[42]) :: (wb++R))):=by simpa using hat
 obtain ⟨m,h1,h2⟩:=ha l i n _ hn hat (by rw [sW3]; decide) (by omega)
 obtain ⟨m,rfl⟩:∃ q,m=q+1:=⟨m - 1,by omega⟩
 obtain ⟨q,h3,h4⟩:=hb l (i+wa.length+1) m R hn hat.app.next (by omega)
 refine ⟨m,by rw [List.length_append,List.length_cons]; omega,?_⟩
 rw [h2,aAw,hat.app.key,iR,decide_eq_true rfl,if_pos rfl,h4,aVZ hn hat.app.next.app hs (by omega),aO,List.length_append,List.length_cons,show i+wa.length+1+wb.length=i+(wa.length+(wb.length+1)) by omega]
 rfl
theorem bGv {s:List UInt8} {op:Int} (ho:(s=[43]∧op=1)∨(s=[45]∧op=2)) (ha:A2 a wa) (hb:A3 b wb) (hwb:wb≠[]):A2 (.node 31 op [] [] [a,b]) (wa++(3,s) :: wb):=fun l i n R hn hat hs hk hm=>by
 have hl:1≤wb.length:=by cases wb with | nil=>exact absurd rfl hwb | cons=>simp
 rw [List.length_append,List.length_cons] at hm
 have hat:At l i (wa++((3,s) :: (wb++R))):=by simpa using hat
 have hs1:sW ((3,s) :: (wb++R))=false:=by rw [sW3]; rcases ho with ⟨rfl,_⟩ | ⟨rfl,_⟩ <;> decide
 have hk1:kW ((3,s) :: (wb++R)) [42]=false:=by rw [iR]; rcases ho with ⟨rfl,_⟩ | ⟨rfl,_⟩ <;> decide
 obtain ⟨m,h1,h2⟩:=ha l i n _ hn hat hs1 hk1 (by omega)
 obtain ⟨m,rfl⟩:∃ q,m=q+1:=⟨m - 1,by omega⟩
 obtain ⟨q,h3,h4⟩:=hb l (i+wa.length+1) m R hn hat.app.next hs (by omega)
 refine ⟨m,by rw [List.length_append,List.length_cons]; omega,?_⟩
 rw [h2,aDT,hat.app.key,iR,hat.app.key,iR,h4,aUD hat.app.next.app hk (by omega),aO,aO,List.length_append,List.length_cons,show i+wa.length+1+wb.length=i+(wa.length+(wb.length+1)) by omega]
 rcases ho with ⟨rfl,rfl⟩ | ⟨rfl,rfl⟩
 ·rw [if_pos (by decide)]; rfl
 ·rw [if_neg (by decide),if_pos (by decide)]; rfl
theorem bF9 {s:List UInt8} {op:Int} (ho:(s=[61]∧op=4)∨(s=[60]∧op=5)) (hwa:wa≠[]) (ha:A2 a wa) (hb:A2 b wb) (hwb:wb≠[]):A1 (.node 31 op [] [] [a,b]) (wa++(3,s) :: wb):=fun l i n R hn hat hs hm=>by
 obtain ⟨n,rfl⟩:∃ q,n=q+1:=⟨n - 1,by omega⟩
 rw [List.length_append,List.length_cons] at hm
 have hat:At l i (wa++((3,s) :: (wb++R))):=by simpa using hat
 have hs1:sW ((3,s) :: (wb++R))=false:=by rw [sW3]; rcases ho with ⟨rfl,_⟩ | ⟨rfl,_⟩ <;> decide
 have hk:∀ u,u=[42]∨u=[43]∨u=[45]→kW ((3,s) :: (wb++R)) u=false:=by
  intro u hu
  rw [iR]
  rcases ho with ⟨rfl,_⟩ | ⟨rfl,_⟩ <;> rcases hu with rfl | rfl | rfl <;> decide
 rw [aSm,ha.fin hwa hn hat hs1 (hk _ (.inl rfl)) (hk _ (.inr (.inl rfl))) (hk _ (.inr (.inr rfl))) (by omega),aO]
 rw [hat.app.key,iR,hat.app.key,iR,hb.fin hwb hn hat.app.next hs.s hs.m hs.p hs.n (by omega),aO,aO,List.length_append,List.length_cons,show i+wa.length+1+wb.length=i+(wa.length+(wb.length+1)) by omega]
 rcases ho with ⟨rfl,rfl⟩ | ⟨rfl,rfl⟩
 ·rw [if_pos (by decide)]; rfl
 ·rw [if_neg (by decide),if_pos (by decide)]; rfl
theorem aLk {l:List aI} {i:Nat} {s:List UInt8} {R:List Wd} (h:At l i ((3,s) :: R)) (u:List UInt8):bE l (i:Int) u=decide (s=u):=by rw [h.key,iR]
theorem bIW {s:List UInt8} {t:Tr} {wt:List Wd} (hc:mG s=true) (ht:Pa0 t wt) (hb:A0 b wb):A0 (.node 24 0 s [] [t,b]) ((3,[102,110]) :: (3,[40]) :: (1,s) :: (3,[58]) :: (wt++(3,[41]) :: (3,[61,62]) :: wb)):=fun l i n R hn hat hs hm=>by
 obtain ⟨n,rfl⟩:∃ q,n=q+1:=⟨n - 1,by omega⟩
 simp only [List.length_append,List.length_cons] at hm
 have hat:At l i ((3,[102,110]) :: (3,[40]) :: (1,s) :: (3,[58]) :: (wt++((3,[41]) :: (3,[61,62]) :: (wb++R)))):=by simpa using hat
 have h4:=hat.next.next.next.next
 rw [fD,aLk hat,if_pos (by decide),ks1 hat.next,ks0,aO,nm1 hat.next.next hc,aO,ks1 hat.next.next.next,ks0,aO]
 rw [ty1 ht h4 (by rw [iR]; decide) (by rw [iR]; decide),aO,ks1 h4.app,ks1 h4.app.next,ks0,aO,hb l _ n R hn h4.app.next.next hs (by omega),aO]
 simp only [List.length_append,List.length_cons]
 rw [show i+1+1+1+1+wt.length+1+1+wb.length=i+(wt.length+(wb.length+1+1)+1+1+1+1) by omega]
theorem bIC {s:List UInt8} (hc:mG s=true) (ha:A0 a wa) (hb:A0 b wb):A0 (.node 29 0 s [] [a,b]) ((3,[108,101,116]) :: (1,s) :: (3,[61]) :: (wa++(3,[105,110]) :: (wb++[(3,[101,110,100])]))):=fun l i n R hn hat hs hm=>by
 obtain ⟨n,rfl⟩:∃ q,n=q+1:=⟨n - 1,by omega⟩
 simp only [List.length_append,List.length_cons,List.length_nil] at hm
 have hat:At l i ((3,[108,101,116]) :: (1,s) :: (3,[61]) :: (wa++((3,[105,110]) :: (wb++((3,[101,110,100]) :: R))))):=by simpa using hat
 have h3:=hat.next.next.next
 rw [fD,aLk hat,if_neg (by decide),aLk hat,if_pos (by decide),nm1 hat.next hc,aO,ks1 hat.next.next,ks0,aO]
 rw [ha l _ n _ hn h3 (aDE _ (by decide)) (by omega),aO,ks1 h3.app,ks0,aO,hb l _ n _ hn h3.app.next (aDE _ (by decide)) (by omega),aO,ks1 h3.app.next.app,ks0,aO]
 simp only [List.length_append,List.length_cons,List.length_nil]
 rw [show i+1+1+1+wa.length+1+wb.length+1=i+(wa.length+(wb.length+(0+1)+1)+1+1+1) by omega]
theorem bJP (ha:A0 a wa) (hb:A0 b wb) (hc:A0 c wc):A0 (.node 30 0 [] [] [a,b,c]) ((3,[105,102]) :: (wa++(3,[116,104,101,110]) :: (wb++(3,[101,108,115,101]) :: wc))):=fun l i n R hn hat hs hm=>by
 obtain ⟨n,rfl⟩:∃ q,n=q+1:=⟨n - 1,by omega⟩
 simp only [List.length_append,List.length_cons] at hm
 have hat:At l i ((3,[105,102]) :: (wa++((3,[116,104,101,110]) :: (wb++((3,[101,108,115,101]) :: (wc++R)))))):=by simpa using hat
 have h1:=hat.next
 rw [fD,aLk hat,if_neg (by decide),aLk hat,if_neg (by decide),aLk hat,if_pos (by decide)]
 rw [ha l _ n _ hn h1 (aDE _ (by decide)) (by omega),aO,ks1 h1.app,ks0,aO,hb l _ n _ hn h1.app.next (aDE _ (by decide)) (by omega),aO,ks1 h1.app.next.app,ks0,aO,hc l _ n _ hn h1.app.next.app.next hs (by omega),aO]
 simp only [List.length_append,List.length_cons]
 rw [show i+1+wa.length+1+wb.length+1+wc.length=i+(wa.length+(wb.length+(wc.length+1)+1)+1) by omega]
abbrev AX:=List UInt8×List UInt8×Tr×List Wd
def xTr (a:AX):Tr:=.node 34 0 a.1 a.2.1 [a.2.2.1]
def xW (a:AX):List Wd:=(1,a.1) :: (1,a.2.1) :: (3,[61,62]) :: a.2.2.2
def xsW:List AX→List Wd
 | []=>[(3,[101,110,100])]
 | [a]=>xW a++[(3,[101,110,100])]
 | a :: r=>xW a++(3,[124]) :: xsW r
theorem bAl (l:List aI) (hn:Nk l):∀ (r:List AX),r≠[]→(∀ a∈r,mG a.1=true∧mG a.2.1=true∧A0 a.2.2.1 a.2.2.2)→∀ (i n:Nat) (R:List Wd) (out:List Tr),At l i (xsW r++R)→8 * (xsW r).length+1≤n→aCc l n out i=(out++r.map xTr,i+(xsW r).length,0)
 | [],h,_,_,_,_,_,_,_=>absurd rfl h
 | [a],_,h,i,n,R,out,hat,hm=>by
  obtain ⟨n,rfl⟩:∃ q,n=q+1:=⟨n - 1,by omega⟩
  obtain ⟨h1,h2,h3⟩:=h a List.mem_cons_self
  simp only [xsW,xW,List.length_append,List.length_cons,List.length_nil] at hm
  have hat:At l i ((1,a.1) :: (1,a.2.1) :: (3,[61,62]) :: (a.2.2.2++((3,[101,110,100]) :: R))):=by simpa [xsW,xW] using hat
  have h4:=hat.next.next.next
  rw [aCc,nm1 hat h1,aO,nm1 hat.next h2,aO,ks1 hat.next.next,ks0,aO,h3 l _ n _ hn h4 (aDE _ (by decide)) (by omega),aO,aLk h4.app,if_neg (by decide),ks1 h4.app,ks0,aO]
  simp only [xsW,xW,List.length_append,List.length_cons,List.length_nil]
  rw [show i+1+1+1+a.2.2.2.length+1=i+(a.2.2.2.length+1+1+1+(0+1)) by omega]
  rfl
 | a :: b :: r,_,h,i,n,R,out,hat,hm=>by
  obtain ⟨n,rfl⟩:∃ q,n=q+1:=⟨n - 1,by omega⟩
  obtain ⟨h1,h2,h3⟩:=h a List.mem_cons_self
  have e:xsW (a :: b :: r)=xW a++(3,[124]) :: xsW (b :: r):=rfl
  rw [e] at hat hm ⊢
  simp only [xW,List.length_append,List.length_cons] at hm
  have hat:At l i ((1,a.1) :: (1,a.2.1) :: (3,[61,62]) :: (a.2.2.2++((3,[124]) :: (xsW (b :: r)++R)))):=by simpa [xW] using hat
  have h4:=hat.next.next.next
  rw [aCc,nm1 hat h1,aO,nm1 hat.next h2,aO,ks1 hat.next.next,ks0,aO,h3 l _ n _ hn h4 (aDE _ (by decide)) (by omega),aO,aLk h4.app,if_pos (by decide)]
  rw [bAl l hn (b :: r) (by simp) (fun x hx=>h x (List.mem_cons_of_mem _ hx)) _ n R _ h4.app.next (by omega)]
  simp only [xW,List.length_append,List.length_cons]
  rw [show i+1+1+1+a.2.2.2.length+1+(xsW (b :: r)).length=i+(a.2.2.2.length+1+1+1+((xsW (b :: r)).length+1)) by omega]
  simp [xTr]
theorem bIj {r:List AX} (ha:A0 a wa) (h0:r≠[]) (h:∀ x∈r,mG x.1=true∧mG x.2.1=true∧A0 x.2.2.1 x.2.2.2):A0 (.node 32 0 [] [] (a :: r.map xTr)) ((3,[99,97,115,101]) :: (wa++(3,[111,102]) :: xsW r)):=fun l i n R hn hat hs hm=>by
 obtain ⟨n,rfl⟩:∃ q,n=q+1:=⟨n - 1,by omega⟩
 simp only [List.length_append,List.length_cons] at hm
 have hat:At l i ((3,[99,97,115,101]) :: (wa++((3,[111,102]) :: (xsW r++R)))):=by simpa using hat
 have h1:=hat.next
 rw [fD,aLk hat,if_neg (by decide),aLk hat,if_neg (by decide),aLk hat,if_neg (by decide),aLk hat,if_pos (by decide)]
 rw [ha l _ n _ hn h1 (aDE _ (by decide)) (by omega),aO,ks1 h1.app,ks0,aO,bAl l hn r h0 h _ n R [] h1.app.next (by omega),aO]
 simp only [List.length_append,List.length_cons,List.nil_append]
 rw [show i+1+wa.length+1+(xsW r).length=i+(wa.length+((xsW r).length+1)+1) by omega]
theorem bHK {r:List AX} {t:Tr} {wt:List Wd} (ha:A0 a wa) (ht:Pa0 t wt) (h0:r≠[]) (h:∀ x∈r,mG x.1=true∧mG x.2.1=true∧A0 x.2.2.1 x.2.2.2):A0 (.node 33 0 [] [] (a :: t :: r.map xTr)) ((3,[102,111,108,100]) :: (wa++(3,[116,111]) :: (wt++(3,[111,102]) :: xsW r))):=fun l i n R hn hat hs hm=>by
 obtain ⟨n,rfl⟩:∃ q,n=q+1:=⟨n - 1,by omega⟩
 simp only [List.length_append,List.length_cons] at hm
 have hat:At l i ((3,[102,111,108,100]) :: (wa++((3,[116,111]) :: (wt++((3,[111,102]) :: (xsW r++R)))))):=by simpa using hat
 have h1:=hat.next
 have h2:=h1.app.next
 rw [fD,aLk hat,if_neg (by decide),aLk hat,if_neg (by decide),aLk hat,if_neg (by decide),aLk hat,if_neg (by decide),aLk hat,if_pos (by decide)]
 rw [ha l _ n _ hn h1 (aDE _ (by decide)) (by omega),aO,ks1 h1.app,ks0,aO,ty1 ht h2 (by rw [iR]; decide) (by rw [iR]; decide),aO,ks1 h2.app,ks0,aO,bAl l hn r h0 h _ n R [] h2.app.next (by omega),aO]
 simp only [List.length_append,List.length_cons,List.nil_append]
 rw [show i+1+wa.length+1+wt.length+1+(xsW r).length=i+(wa.length+(wt.length+((xsW r).length+1)+1)+1) by omega]
end
end Go.Proofs.YtjhfgiieicloeaaGreatDoor

