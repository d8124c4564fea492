/- Joined texts: P0, C0, U1, U2, U3, U4, U5, U6, U7, U8, U9, S0, H0. -/
import Derived.Test.YtjhfgiieicloeaaGreatDoorGc
import Derived.Test.YtjhfgiieicloeaaGreatDoorGf
import Derived.Lib.ValidU
import Derived.Lib.DecodeNEq
/- Plain facts: functions with fuel that come to an answer; numbers that do not wrap; lists looked up at numbers. -/
namespace Go.Am
open Go

def Ev {α:Type} (f:Nat→Option α) (v:α):Prop:=∃ N,∀ K,N≤K→f K=some v

section
variable {α β:Type}
theorem Ev.pure {v:α}:Ev (fun _=>some v) v:=⟨0,fun _ _=>rfl⟩
theorem Ev.pure' {u v:α} (h:u=v):Ev (fun _=>some u) v:=h ▸ Ev.pure
theorem Ev.bind {f:Nat→Option α} {g:α→Nat→Option β} {a:α} {b:β} (h:Ev f a) (k:Ev (g a) b):Ev (fun K=>(f K).bind fun x=>g x K) b:=by
 obtain ⟨N,hN⟩:=h
 obtain ⟨M,hM⟩:=k
 refine ⟨max N M,fun K hK=>?_⟩
 have h1:=hN K (by omega)
 have h2:=hM K (by omega)
 simp only [h1,Option.bind_some,h2]
theorem Ev.opt {x:Option α} {g:α→Nat→Option β} {a:α} {b:β} (h:x=some a) (k:Ev (g a) b):Ev (fun K=>x.bind fun y=>g y K) b:=by
 subst h; exact k
theorem Ev.step {F G:Nat→Option α} {v:α} (h:∀ k,F (k+1)=G k) (k:Ev G v):Ev F v:=by
 obtain ⟨N,hN⟩:=k
 refine ⟨N+1,fun K hK=>?_⟩
 obtain ⟨K',rfl⟩:∃ K',K=K' + 1:=⟨K - 1,by omega⟩
 rw [h]; exact hN K' (by omega)
theorem Ev.iteT {c:Prop} [Decidable c] {f g:Nat→Option α} {v:α} (hc:c) (h:Ev f v):Ev (fun K=>if c then f K else g K) v:=by
 simp only [if_pos hc]; exact h
theorem Ev.iteF {c:Prop} [Decidable c] {f g:Nat→Option α} {v:α} (hc:¬ c) (h:Ev g v):Ev (fun K=>if c then f K else g K) v:=by
 simp only [if_neg hc]; exact h
theorem Ev.ite {c:Prop} [Decidable c] {f g:Nat→Option α} {v:α} (h1:c→Ev f v) (h2:¬ c→Ev g v):Ev (fun K=>if c then f K else g K) v:=by
 by_cases hc:c
 ·exact Ev.iteT hc (h1 hc)
 ·exact Ev.iteF hc (h2 hc)
theorem Ev.isT {c:Bool} {f g:Nat→Option α} {v:α} (hc:c=true) (h:Ev f v):Ev (fun K=>Sx.iteS c (f K) (g K)) v:=by
 subst hc; exact h
theorem Ev.isF {c:Bool} {f g:Nat→Option α} {v:α} (hc:c=false) (h:Ev g v):Ev (fun K=>Sx.iteS c (f K) (g K)) v:=by
 subst hc; exact h
theorem Ev.is {c:Bool} {f g:Nat→Option α} {v:α} (h1:c=true→Ev f v) (h2:c=false→Ev g v):Ev (fun K=>Sx.iteS c (f K) (g K)) v:=by
 cases c
 ·exact Ev.isF rfl (h2 rfl)
 ·exact Ev.isT rfl (h1 rfl)
theorem Ev.dT {p:Prop} [Decidable p] {f g:Nat→Option α} {v:α} (hc:p) (h:Ev f v):Ev (fun K=>Sx.iteS (decide p) (f K) (g K)) v:=Ev.isT (decide_eq_true hc) h
theorem Ev.dF {p:Prop} [Decidable p] {f g:Nat→Option α} {v:α} (hc:¬ p) (h:Ev g v):Ev (fun K=>Sx.iteS (decide p) (f K) (g K)) v:=Ev.isF (decide_eq_false hc) h
theorem Ev.d {p:Prop} [Decidable p] {f g:Nat→Option α} {v:α} (h1:p→Ev f v) (h2:¬ p→Ev g v):Ev (fun K=>Sx.iteS (decide p) (f K) (g K)) v:=by
 by_cases hc:p
 ·exact Ev.dT hc (h1 hc)
 ·exact Ev.dF hc (h2 hc)
theorem Ev.nT {p:Prop} [Decidable p] {f g:Nat→Option α} {v:α} (hc:¬ p) (h:Ev f v):Ev (fun K=>Sx.iteS (!decide p) (f K) (g K)) v:=Ev.isT (by simp [hc]) h
theorem Ev.nF {p:Prop} [Decidable p] {f g:Nat→Option α} {v:α} (hc:p) (h:Ev g v):Ev (fun K=>Sx.iteS (!decide p) (f K) (g K)) v:=Ev.isF (by simp [hc]) h
theorem Ev.n {p:Prop} [Decidable p] {f g:Nat→Option α} {v:α} (h1:¬ p→Ev f v) (h2:p→Ev g v):Ev (fun K=>Sx.iteS (!decide p) (f K) (g K)) v:=by
 by_cases hc:p
 ·exact Ev.nF hc (h2 hc)
 ·exact Ev.nT hc (h1 hc)
theorem Ev.get {f:Nat→Option α} {v:α} (h:Ev f v):∃ K,f K=some v:=⟨_,h.choose_spec _ (Nat.le_refl _)⟩
theorem Ev.congr {f g:Nat→Option α} {v:α} (h:Ev f v) (e:∀ k,g k=f k):Ev g v:=by
 obtain ⟨N,hN⟩:=h
 exact ⟨N,fun K hK=>(e K).trans (hN K hK)⟩

theorem nC {x:Int} (h1:-9223372036854775808≤x) (h2:x≤9223372036854775807):IntKind.i64.wrap x=x:=by
 show (if (true && decide (x % 18446744073709551616 ≥ 9223372036854775808))=true then x % 18446744073709551616 - 18446744073709551616 else x % 18446744073709551616)=x
 simp only [Bool.true_and,decide_eq_true_eq]
 split <;> omega

theorem wrap32 {x:Int} (h1:0≤x) (h2:x≤2147483647):IntKind.i32.wrap x=x:=by
 show (if (true && decide (x % 4294967296 ≥ 2147483648))=true then x % 4294967296 - 4294967296 else x % 4294967296)=x
 simp only [Bool.true_and,decide_eq_true_eq]
 split <;> omega
theorem bIe {x:Int} (h1:0≤x) (h2:x≤255):IntKind.u8.wrap x=x:=by
 show (if (false && decide (x % 256 ≥ 128))=true then x % 256 - 256 else x % 256)=x
 simp only [Bool.false_and,Bool.false_eq_true,if_false]
 omega
theorem aRn (b:UInt8):b.toNat<256:=b.toNat_lt
theorem cX {n:Nat} (h:n<9223372036854775807):IntKind.i64.wrap ((n:Int)+1)=((n+1:Nat):Int):=by
 rw [nC (by omega) (by omega)]; omega

theorem aPz {l:List α} {j:Nat}:aU l (j:Int)=l[j]?:=by
 unfold aU; rw [if_pos (by omega)]; rfl
theorem dX {l:List α} {j:Nat} (h:j<l.length):aU l (j:Int)=some l[j]:=by
 rw [aPz,List.getElem?_eq_getElem h]
theorem aXP {l:List α} {x:Int} (h0:0≤x) (h:x.toNat<l.length):aU l x=some l[x.toNat]:=by
 unfold aU; rw [if_pos h0,List.getElem?_eq_getElem h]

theorem cM {by':Nat} {l m:List α} (h:(l.length+m.length) * by'≤140737488355328):aAt by' l m=some (l++m):=by
 unfold aAt; rw [if_pos h]
theorem bAb {by':Nat} {z:α} {n:Nat} (h:n * by'≤140737488355328):mkL by' z (n:Int)=some (List.replicate n z):=by
 unfold mkL; rw [if_pos ⟨by omega,by simpa using h⟩]; rfl
theorem xO {l:List α} {a b:Nat} (h1:a≤b) (h2:b≤l.length):jA l (a:Int) (b:Int)=some ((l.take b).drop a):=by
 unfold jA; rw [if_pos ⟨by omega,by omega,by omega⟩]; rfl
theorem bM {l r:List UInt8} (h:l.length+r.length≤9223372036854775807):catS l r=some (l++r):=by
 unfold catS; rw [if_pos h]

theorem bJj {p:Prop} [Decidable p] (h:p):decide p=true:=decide_eq_true h
def Tr.w:Tr→Nat
 | .nil=>1
 | .node _ _ _ _ ks=>1+go ks
where go:List Tr→Nat
 | []=>0
 | k :: ks=>k.w+go ks

abbrev wL (l:List Tr):Nat:=Tr.w.go l
theorem aK:wL []=0:=by simp [Tr.w.go]
theorem aD (k:Tr) (ks:List Tr):wL (k :: ks)=k.w+wL ks:=by simp [Tr.w.go]
theorem aJ {k n nm mk ks}:(Tr.node k n nm mk ks).w=1+wL ks:=by simp [Tr.w]
theorem aV3 (t:Tr):1≤t.w:=by cases t <;> simp [Tr.w]
theorem aBK {k:Tr}:∀ {l:List Tr},k∈l→k.w≤wL l
 | x :: l,h=>by
  rw [aD]
  rcases List.mem_cons.1 h with rfl | h
  ·omega
  ·have:=aBK h; omega
theorem aIW:∀ (l:List Tr),l.length≤wL l
 | []=>by simp
 | k :: l=>by rw [aD]; have:=aIW l; have:=aV3 k; simp; omega
theorem aIc:∀ (l m:List Tr),wL (l++m)=wL l+wL m
 | [],m=>by simp [aK]
 | k :: l,m=>by rw [List.cons_append,aD,aD,aIc l m]; omega

theorem Tr.ind {p:Tr→Prop} (h0:p .nil) (h1:∀ k n nm mk ks,(∀ x∈ks,p x)→p (.node k n nm mk ks)):∀ t,p t:=by
 have:∀ n (t:Tr),t.w≤n→p t:=by
  intro n
  induction n with
  | zero=>intro t h; have:=aV3 t; omega
  | succ n ih =>
   intro t h
   cases t with
   | nil=>exact h0
   | node k m nm mk ks =>
    refine h1 _ _ _ _ _ fun x hx=>ih x ?_
    rw [aJ] at h
    have:=aBK hx
    omega
 exact fun t=>this t.w t (Nat.le_refl _)

theorem iP {l:List α} {i:Nat} (h:i<l.length):l.drop i=l[i] :: l.drop (i+1):=List.drop_eq_getElem_cons h
theorem oZ {l:List α} {i:Nat} (h:i<l.length):l.take (i+1)=l.take i++[l[i]]:=by
 rw [List.take_add_one,List.getElem?_eq_getElem h]; rfl
end
end Go.Am

/- The cells of a tree, as typed values. -/
namespace Go.Proofs.YtjhfgiieicloeaaGreatDoor
open Go Go.Am Go.Sx
abbrev Cell:=Int×Int×List UInt8×List UInt8×List Int
theorem bFn {n m:Nat}:(if (m:Int)<(n:Int) then (m:Int) else (n:Int))=((min n m:Nat):Int):=by split <;> omega
theorem bEz {α:Type} {l:List α} {m:Nat}:(l.take (min l.length m)).drop 0=l.take m:=by
 rw [List.drop_zero]
 rcases Nat.le_total l.length m with h | h
 ·rw [Nat.min_eq_left h,List.take_length,List.take_of_length_le h]
 ·rw [Nat.min_eq_right h]
theorem aXC {α:Type} {l:List α} {m:Nat}:jA l 0 (if (m:Int)<(((l.length:Nat):Int)) then (m:Int) else (((l.length:Nat):Int)))=some (l.take m):=by
 rw [bFn,show (0:Int)=((0:Nat):Int) from rfl,xO (by omega) (by omega),bEz]
end Go.Proofs.YtjhfgiieicloeaaGreatDoor

/- Plain facts of bytes, part 1: words of eight bytes that are all below 128. -/
namespace Go.Proofs.YtjhfgiieicloeaaGreatDoor
open Go Go.Am Go.Sx

theorem bCp {w m:Nat} (h:m<2 ^ w):(BitVec.ofInt w (m:Int)).toNat=m:=by
 rw [BitVec.ofInt_natCast,BitVec.toNat_ofNat,Nat.mod_eq_of_lt h]
theorem wrap64 {n:Nat} (h:n<18446744073709551616):IntKind.u64.wrap (n:Int)=(n:Int):=by
 show (if (false && decide ((n:Int) % 18446744073709551616 ≥ 9223372036854775808))=true then (n:Int) % 18446744073709551616 - 18446744073709551616 else (n:Int) % 18446744073709551616)=n
 simp only [Bool.false_and,Bool.false_eq_true,if_false]
 omega
theorem aSC {m:Nat} (h:m<2 ^ 64):(BitVec.ofInt IntKind.u64.bits (m:Int)).toNat=m:=bCp (w:=64) h
theorem aS3 {m n:Nat} (hm:m<2 ^ 64) (hn:n<2 ^ 64):pW .or .u64 (m:Int) (n:Int)=some ((m ||| n:Nat):Int):=by
 unfold pW
 rw [if_neg (by simp)]
 simp only [BitVec.toNat_or,aSC hm,aSC hn]
 rw [wrap64 (by have:=Nat.or_lt_two_pow hm hn; omega)]
theorem bJv {m n:Nat} (hm:m<2 ^ 64) (hn:n<2 ^ 64):pW .and .u64 (m:Int) (n:Int)=some ((m &&& n:Nat):Int):=by
 unfold pW
 rw [if_neg (by simp)]
 simp only [BitVec.toNat_and,aSC hm,aSC hn]
 rw [wrap64 (by have:=Nat.and_lt_two_pow m hn; omega)]
theorem bIS {m n:Nat} (hm:m<256) (hn:n≤56):shI .shl .u64 (m:Int) (n:Int)=some ((m <<< n:Nat):Int):=by
 unfold shI
 rw [if_neg (by simp)]
 simp only [show IntKind.u64.bits=64 from rfl,Int.toNat_natCast,Nat.min_eq_left (show n≤64 by omega),Nat.shiftLeft_eq]
 have h1:m * 2 ^ n<18446744073709551616:=calc
  m * 2 ^ n<256 * 2 ^ n:=Nat.mul_lt_mul_of_pos_right hm (Nat.two_pow_pos n)
  _≤256 * 2 ^ 56:=Nat.mul_le_mul_left _ (Nat.pow_le_pow_right (by decide) hn)
  _=18446744073709551616:=by decide
 rw [← wrap64 h1]
 simp
theorem bDm (b:UInt8):IntKind.u64.wrap ((b.toNat:Nat):Int)=((b.toNat:Nat):Int):=wrap64 (by have:=aRn b; omega)

def aPJ (l:List UInt8):Nat:=((((((((l[0]!.toNat) ||| (l[1]!.toNat <<< 8)) ||| (l[2]!.toNat <<< 16)) ||| (l[3]!.toNat <<< 24)) ||| (l[4]!.toNat <<< 32)) ||| (l[5]!.toNat <<< 40)) ||| (l[6]!.toNat <<< 48)) ||| (l[7]!.toNat <<< 56))
theorem bCM {m n:Nat} (hm:m<256) (hn:n≤56):m <<< n<2 ^ 64:=by
 rw [Nat.shiftLeft_eq]
 calc m * 2 ^ n<256 * 2 ^ n:=Nat.mul_lt_mul_of_pos_right hm (Nat.two_pow_pos n)
  _≤256 * 2 ^ 56:=Nat.mul_le_mul_left _ (Nat.pow_le_pow_right (by decide) hn)
  _=2 ^ 64:=by decide
theorem mY (l:List UInt8):aPJ l<2 ^ 64:=by
 unfold aPJ
 have b:∀ i:Nat,l[i]!.toNat<256:=fun i=>aRn _
 repeat first | exact Nat.lt_trans (b 0) (by decide) | refine Nat.or_lt_two_pow ?_ (bCM (b _) (by decide))
theorem nI {l:List UInt8} {i:Nat} (h:i<l.length):aU l ((i:Nat):Int)=some l[i]!:=by
 rw [dX h,getElem!_pos l i h]

theorem bDM (k:Nat) (l:List UInt8) (h:8≤l.length):utf8_word k l=some (aPJ l:Int):=by
 have g:∀ i:Nat,i<8→aU l ((i:Nat):Int)=some l[i]!:=fun i hi=>nI (by omega)
 have b:∀ i:Nat,l[i]!.toNat<256:=fun i=>aRn _
 have s:∀ i n:Nat,n≤56→shI .shl .u64 ((l[i]!.toNat:Nat):Int) (n:Int)=some ((l[i]!.toNat <<< n:Nat):Int):=fun i n hn=>bIS (b i) hn
 have sl:∀ i n:Nat,n≤56→l[i]!.toNat <<< n<2 ^ 64:=fun i n hn=>bCM (b i) hn
 have b64:∀ i:Nat,l[i]!.toNat<2 ^ 64:=fun i=>Nat.lt_trans (b i) (by decide)
 have o:∀ m n:Nat,m<2 ^ 64→n<2 ^ 64→m ||| n<2 ^ 64:=fun m n=>Nat.or_lt_two_pow
 have g0:aU l 0=some l[0]!:=g 0 (by decide); have g1:aU l 1=some l[1]!:=g 1 (by decide); have g2:aU l 2=some l[2]!:=g 2 (by decide); have g3:aU l 3=some l[3]!:=g 3 (by decide)
 have g4:aU l 4=some l[4]!:=g 4 (by decide); have g5:aU l 5=some l[5]!:=g 5 (by decide); have g6:aU l 6=some l[6]!:=g 6 (by decide); have g7:aU l 7=some l[7]!:=g 7 (by decide)
 have s1:shI .shl .u64 ((l[1]!.toNat:Nat):Int) 8=some ((l[1]!.toNat <<< 8:Nat):Int):=s 1 8 (by decide); have s2:shI .shl .u64 ((l[2]!.toNat:Nat):Int) 16=some ((l[2]!.toNat <<< 16:Nat):Int):=s 2 16 (by decide); have s3:shI .shl .u64 ((l[3]!.toNat:Nat):Int) 24=some ((l[3]!.toNat <<< 24:Nat):Int):=s 3 24 (by decide); have s4:shI .shl .u64 ((l[4]!.toNat:Nat):Int) 32=some ((l[4]!.toNat <<< 32:Nat):Int):=s 4 32 (by decide)
 have s5:shI .shl .u64 ((l[5]!.toNat:Nat):Int) 40=some ((l[5]!.toNat <<< 40:Nat):Int):=s 5 40 (by decide); have s6:shI .shl .u64 ((l[6]!.toNat:Nat):Int) 48=some ((l[6]!.toNat <<< 48:Nat):Int):=s 6 48 (by decide); have s7:shI .shl .u64 ((l[7]!.toNat:Nat):Int) 56=some ((l[7]!.toNat <<< 56:Nat):Int):=s 7 56 (by decide)
 have t1:=o _ _ (b64 0) (sl 1 8 (by decide))
 have t2:=o _ _ t1 (sl 2 16 (by decide))
 have t3:=o _ _ t2 (sl 3 24 (by decide))
 have t4:=o _ _ t3 (sl 4 32 (by decide))
 have t5:=o _ _ t4 (sl 5 40 (by decide))
 have t6:=o _ _ t5 (sl 6 48 (by decide))
 unfold utf8_word aPJ
 simp only [g0,g1,g2,g3,g4,g5,g6,g7,Option.bind_some,bDm,s1,s2,s3,s4,s5,s6,s7]
 rw [aS3 (b64 0) (sl 1 8 (by decide)),Option.bind_some,aS3 t1 (sl 2 16 (by decide)),Option.bind_some,aS3 t2 (sl 3 24 (by decide)),Option.bind_some,aS3 t3 (sl 4 32 (by decide)),Option.bind_some,
  aS3 t4 (sl 5 40 (by decide)),Option.bind_some,aS3 t5 (sl 6 48 (by decide)),Option.bind_some,aS3 t6 (sl 7 56 (by decide)),Option.bind_some]

theorem bJR {b:UInt8} (h:b.toNat.testBit 7=false):b.toNat<128:=by
 rw [Nat.testBit_eq_decide_div_mod_eq,decide_eq_false_iff_not] at h
 have:=aRn b
 omega
theorem bE8 {w n:Nat} (h:w &&& 9259542123273814144=0) (hn:(9259542123273814144:Nat).testBit n=true):w.testBit n=false:=by
 have:=congrArg (fun x=>Nat.testBit x n) h
 simpa [Nat.testBit_and,hn] using this
theorem bAG {l:List UInt8} (h:aPJ l &&& 9259542123273814144=0):∀ i,i<8→l[i]!.toNat<128:=by
 have key:∀ i,i<8→(aPJ l).testBit (8 * i+7)=false:=fun i hi=>bE8 h (by
  match i,hi with
  | 0,_ | 1,_ | 2,_ | 3,_ | 4,_ | 5,_ | 6,_ | 7,_=>decide)
 intro i hi
 have k:=key i hi
 refine bJR ?_
 unfold aPJ at k
 simp only [Nat.testBit_or,Nat.testBit_shiftLeft,Bool.or_eq_false_iff] at k
 obtain ⟨⟨⟨⟨⟨⟨⟨k0,k1⟩,k2⟩,k3⟩,k4⟩,k5⟩,k6⟩,k7⟩:=k
 match i,hi with
 | 0,_=>simpa using k0
 | 1,_=>simpa using k1
 | 2,_=>simpa using k2
 | 3,_=>simpa using k3
 | 4,_=>simpa using k4
 | 5,_=>simpa using k5
 | 6,_=>simpa using k6
 | 7,_=>simpa using k7
end Go.Proofs.YtjhfgiieicloeaaGreatDoor

/- Plain facts of bytes, part 2: the rune at a place; texts that are valid. -/
namespace Go.Proofs.YtjhfgiieicloeaaGreatDoor
open Go Go.Am Go.Sx

theorem bEp (l:List UInt8) (i:Nat):(⟨l.toArray⟩:ByteArray).get! i=l[i]!:=by
 simp [ByteArray.get!]
theorem size_mk (l:List UInt8):(⟨l.toArray⟩:ByteArray).size=l.length:=by simp [ByteArray.size]
def dc (l:List UInt8):Nat×Nat:=Lib.decodeN l.length l[0]!.toNat l[1]!.toNat l[2]!.toNat l[3]!.toNat
theorem aV0 (l:List UInt8) (i j:Nat):(l.drop i)[j]! = l[i+j]!:=by
 simp [List.getElem!_eq_getElem?_getD]
theorem sL (l:List UInt8) (i:Nat):gJ l i=dc (l.drop i):=by
 unfold gJ dc
 rw [Lib.decode_at]
 simp only [bEp,size_mk,aV0,List.length_drop,Nat.add_zero]
theorem aUh (l:List UInt8):Lib.decodeL l=dc l:=by
 have:=sL l 0
 rw [List.drop_zero] at this
 exact this
theorem aEL (l:List UInt8):1≤(dc l).2:=by rw [← aUh]; exact Lib.decodeL_width l
theorem aYZ {l:List UInt8} (h:l[0]!.toNat<128):dc l=(l[0]!.toNat,1):=by
 unfold dc Lib.decodeN; rw [if_pos h]
theorem bEl {l:List UInt8} (h:l≠[]):(dc l).2≤l.length:=by
 have h1:1≤l.length:=by cases l with | nil=>exact absurd rfl h | cons=>simp
 unfold dc Lib.decodeN
 repeat' split
 all_goals simp only
 all_goals omega

def V (l:List UInt8):Bool:=Lib.validD l
theorem aWP:∀ (n m:Nat) (l:List UInt8),l.length≤n→l.length≤m→Lib.validGoD n l=Lib.validGoD m l:=by
 intro n
 induction n with
 | zero =>
  intro m l h _
  obtain rfl:=List.length_eq_zero_iff.1 (Nat.le_zero.1 h)
  cases m <;> simp [Lib.validGoD]
 | succ n ih =>
  intro m l h h2
  cases m with
  | zero =>
   obtain rfl:=List.length_eq_zero_iff.1 (Nat.le_zero.1 h2)
   simp [Lib.validGoD]
  | succ m =>
   unfold Lib.validGoD
   have:=Lib.decodeL_width l
   split
   ·rfl
   ·rename_i hl
    have h1:1≤l.length:=by cases l with | nil=>exact absurd rfl hl | cons=>simp
    split
    ·rfl
    ·exact ih m _ (by rw [List.length_drop]; omega) (by rw [List.length_drop]; omega)
theorem aZ7 {l:List UInt8} (h:l≠[]):V l=if dc l=(65533,1) then false else V (l.drop (dc l).2):=by
 unfold V Lib.validD
 have h1:1≤l.length:=by cases l with | nil=>exact absurd rfl h | cons=>simp
 have hw:=aEL l
 obtain ⟨n,hn⟩:∃ n,l.length=n+1:=⟨l.length - 1,by omega⟩
 rw [hn]
 conv=>lhs; unfold Lib.validGoD
 rw [if_neg h,aUh]
 have e:((dc l).1=65533∧(dc l).2=1)↔dc l=(65533,1):=by rw [Prod.ext_iff]
 simp only [e]
 split
 ·rfl
 ·exact aWP _ _ _ (by rw [List.length_drop]; omega) (Nat.le_refl _)
theorem bA2 {l:List UInt8} (h:l≠[]) (h1:l[0]!.toNat<128):V l=V (l.drop 1):=by
 rw [aZ7 h,aYZ h1,if_neg]
 intro e
 have:=congrArg Prod.fst e
 simp only at this
 omega
theorem aZm:∀ (n:Nat) {l:List UInt8},n≤l.length→(∀ i,i<n→l[i]!.toNat<128)→V l=V (l.drop n)
 | 0,l,_,_=>by rw [List.drop_zero]
 | n+1,l,h,hi=>by
  have hl:l≠[]:=by intro e; subst e; simp at h
  rw [bA2 hl (hi 0 (by omega)),aZm n (l:=l.drop 1) (by rw [List.length_drop]; omega) (fun i h2=>by rw [aV0,Nat.add_comm 1 i]; exact hi (i+1) (by omega)),List.drop_drop,Nat.add_comm 1 n]
end Go.Proofs.YtjhfgiieicloeaaGreatDoor

/- Plain facts of bytes, part 3: utf8.ValidString. -/
namespace Go.Proofs.YtjhfgiieicloeaaGreatDoor
open Go Go.Am Go.Sx

theorem aKF {l:List UInt8} {a:Nat} (h:a≤l.length):jA l (a:Int) ((l.length:Nat):Int)=some (l.drop a):=by
 rw [xO h (Nat.le_refl _),List.take_length]
theorem bAC:∀ b,b<256→aU bAF ((b:Nat):Int)=some ((Lib.firstT b:Nat):Int):=by decide +kernel
theorem aYp:∀ b,b<256→128≤b→pW .and .u8 ((Lib.firstT b:Nat):Int) 7=some ((Lib.firstT b % 8:Nat):Int)∧shI .shr .u8 ((Lib.firstT b:Nat):Int) 4=some ((Lib.firstT b / 16:Nat):Int) ∧
  aU aZE ((Lib.firstT b / 16:Nat):Int)=some (((Lib.accLo (Lib.firstT b / 16):Nat):Int),((Lib.accHi (Lib.firstT b / 16):Nat):Int))∧(Lib.firstT b<240∨Lib.firstT b=241):=by decide +kernel
theorem aTl {w:Nat} (h:w<2 ^ 64):pW .and .u64 (w:Int) 9259542123273814144=some ((w &&& 9259542123273814144:Nat):Int):=bJv h (by decide)
theorem aSK {a b m:Nat} (h:(a ||| b) &&& m=0):a &&& m=0∧b &&& m=0:=by
 rw [Nat.and_or_distrib_right] at h
 exact Nat.or_eq_zero_iff.1 h
theorem aIC {l:List UInt8} (h:8≤l.length):Ev (fun K=>utf8_word K l) ((aPJ l:Nat):Int):=⟨0,fun K _=>bDM K l h⟩

theorem aIV {l:List UInt8} (h:8≤l.length) (hm:aPJ l &&& 9259542123273814144=0):V (l.drop 8)=V l:=(aZm 8 h (bAG hm)).symm

theorem aST {n:Nat}:((n:Nat):Int)=0↔n=0:=by omega
theorem bH0 {l:List UInt8} (h:¬ 0<((l.length:Nat):Int)):l=[]:=List.length_eq_zero_iff.1 (by omega)

theorem bFS {l:List UInt8} (ih0:∀ t:List UInt8,t.length≤l.length→Ev (fun K=>aS K t) (V t)) (ih1:∀ t:List UInt8,t.length≤l.length→Ev (fun K=>cY K t) (V t)) :
  Ev (fun k1=>(iteS (decide (8<((l.length:Nat):Int))) ((utf8_word k1 l).bind fun v4=>((pW .and .u64 v4 9259542123273814144).bind fun v5=>(iteS (decide (v5=0)) ((jA l 8 ((l.length:Nat):Int)).bind fun v6=>(iteS (decide (16<((v6.length:Nat):Int))) ((jA v6 8 ((v6.length:Nat):Int)).bind fun v7=>((utf8_word k1 v6).bind fun v8=>((utf8_word k1 v7).bind fun v9=>((pW .or .u64 v8 v9).bind fun v10=>((pW .and .u64 v10 9259542123273814144).bind fun v11=>(iteS (decide (v11=0)) ((jA v6 16 ((v6.length:Nat):Int)).bind fun v12=>(cY k1 v12)) (aS k1 v6))))))) (aS k1 v6))) (aS k1 l)))) (aS k1 l))) (V l):=by
 refine Ev.d (fun h8=>?_) (fun _=>ih0 l (Nat.le_refl _))
 have h8':8≤l.length:=by omega
 refine Ev.bind (aIC h8') (Ev.opt (aTl (mY l)) ?_)
 refine Ev.d (fun hz=>?_) (fun _=>ih0 l (Nat.le_refl _))
 have e8:=aIV h8' (aST.1 hz)
 refine Ev.opt (aKF (a:=8) h8') ?_
 rw [← e8]
 refine Ev.d (fun h16=>?_) (fun _=>ih0 _ (by rw [List.length_drop]; omega))
 have hl:(l.drop 8).length=l.length - 8:=List.length_drop
 refine Ev.opt (aKF (a:=8) (by omega)) (Ev.bind (aIC (by omega)) (Ev.bind (aIC (by rw [List.length_drop]; omega)) ?_))
 refine Ev.opt (aS3 (mY _) (mY _)) (Ev.opt (aTl (Nat.or_lt_two_pow (mY _) (mY _))) ?_)
 refine Ev.d (fun hz2=>?_) (fun _=>ih0 _ (by omega))
 obtain ⟨a1,a2⟩:=aSK (aST.1 hz2)
 have e16:=aIV (l:=l.drop 8) (by omega) a1
 have e24:=aIV (l:=(l.drop 8).drop 8) (by rw [List.length_drop]; omega) a2
 refine Ev.opt (aKF (a:=16) (by omega)) ?_
 have e:((l.drop 8).drop 8).drop 8=(l.drop 8).drop 16:=by simp only [List.drop_drop]
 rw [← e16,← e24,e]
 exact ih1 _ (by rw [List.length_drop]; omega)

theorem aDY {l:List UInt8} (h:l≠[]) (hd:dc l=(65533,1)):V l=false:=by rw [aZ7 h,if_pos hd]
theorem aZL {l:List UInt8} {r n:Nat} (h:l≠[]) (hd:dc l=(r,n)) (hn:n≠1):V l=V (l.drop n):=by
 rw [aZ7 h,hd,if_neg (by intro e; exact hn (congrArg Prod.snd e))]

theorem bCr (l:List UInt8) (ih0:∀ t:List UInt8,t.length<l.length→Ev (fun K=>aS K t) (V t)) (ih1:∀ t:List UInt8,t.length<l.length→Ev (fun K=>cY K t) (V t)) :
  Ev (fun K=>aS K l) (V l):=by
 refine Ev.step (fun k=>by rw [aS]) ?_
 refine Ev.d (fun h0=>?_) (fun h0=>by rw [bH0 h0]; exact Ev.pure)
 have hp:0<l.length:=by omega
 have hne:l≠[]:=by intro e; subst e; simp at hp
 refine Ev.opt (nI (i:=0) hp) ?_
 refine Ev.d (fun ha=>?_) (fun ha=>?_)
 ·have e1:=bA2 hne (show l[0]!.toNat<128 by omega)
  refine Ev.opt (aKF (a:=1) hp) ?_
  rw [e1]
  have hl:(l.drop 1).length=l.length - 1:=List.length_drop
  exact bFS (l:=l.drop 1) (fun t ht=>ih0 t (by omega)) (fun t ht=>ih1 t (by omega))
 ·have hb:l[0]!.toNat<256:=aRn _
  obtain ⟨p1,p2,p3,p4⟩:=aYp _ hb (by omega)
  refine Ev.opt (bAC _ hb) (Ev.opt p1 (Ev.opt p2 (Ev.opt p3 ?_)))
  have hsz:IntKind.i64.wrap ((Lib.firstT l[0]!.toNat % 8:Nat):Int)=((Lib.firstT l[0]!.toNat % 8:Nat):Int):=nC (by omega) (by omega)
  rw [hsz]
  have hD:Lib.firstT l[0]!.toNat<240→dc l=Lib.slowN l.length l[0]!.toNat l[1]!.toNat l[2]!.toNat l[3]!.toNat (Lib.firstT l[0]!.toNat % 8) (Lib.accLo (Lib.firstT l[0]!.toNat / 16)) (Lib.accHi (Lib.firstT l[0]!.toNat / 16)) :=
   fun h=>(Lib.slow_eq _ _ _ _ _ hp (aRn _) (aRn _) (aRn _) h).symm
  generalize hlo:Lib.accLo (Lib.firstT l[0]!.toNat / 16)=lo at *
  generalize hhi:Lib.accHi (Lib.firstT l[0]!.toNat / 16)=hi at *
  generalize hs:Lib.firstT l[0]!.toNat % 8=sz at *
  have low:∀ {z:Nat},sz=z→z≠1→Lib.firstT l[0]!.toNat<240:=fun h1 h2=>p4.resolve_right fun e=>by rw [e] at hs; omega
  refine Ev.d (fun h2=>?_) (fun h2=>Ev.d (fun h3=>?_) (fun h3=>Ev.d (fun h4=>?_) (fun h4=>?_)))
  ·have e:=hD (low (z:=2) (by omega) (by decide))
   rw [show sz=2 by omega] at e
   refine Ev.d (fun hn=>Ev.pure' (aDY hne (by rw [e]; unfold Lib.slowN; rw [if_pos (by omega)])).symm) (fun hn=>Ev.opt (nI (i:=1) (by omega)) ?_)
   refine Ev.d (fun g=>Ev.pure' (aDY hne (by rw [e]; unfold Lib.slowN; rw [if_neg (by omega),if_pos (by omega)])).symm) (fun g=>Ev.opt (nI (i:=1) (by omega)) ?_)
   refine Ev.d (fun g2=>Ev.pure' (aDY hne (by rw [e]; unfold Lib.slowN; rw [if_neg (by omega),if_pos (by omega)])).symm) (fun g2=>Ev.opt (aKF (a:=2) (by omega)) ?_)
   have hd:dc l=(l[0]!.toNat % 32 * 64+l[1]!.toNat % 64,2):=by rw [e]; unfold Lib.slowN; rw [if_neg (by omega),if_neg (by omega),if_pos (by omega)]
   rw [aZL hne hd (by decide)]
   exact ih0 _ (by rw [List.length_drop]; omega)
  ·have e:=hD (low (z:=3) (by omega) (by decide))
   rw [show sz=3 by omega] at e
   refine Ev.d (fun hn=>Ev.pure' (aDY hne (by rw [e]; unfold Lib.slowN; rw [if_pos (by omega)])).symm) (fun hn=>Ev.opt (nI (i:=1) (by omega)) ?_)
   refine Ev.d (fun g=>Ev.pure' (aDY hne (by rw [e]; unfold Lib.slowN; rw [if_neg (by omega),if_pos (by omega)])).symm) (fun g=>Ev.opt (nI (i:=1) (by omega)) ?_)
   refine Ev.d (fun g2=>Ev.pure' (aDY hne (by rw [e]; unfold Lib.slowN; rw [if_neg (by omega),if_pos (by omega)])).symm) (fun g2=>Ev.opt (nI (i:=2) (by omega)) ?_)
   refine Ev.d (fun g3=>Ev.pure' (aDY hne (by rw [e]; unfold Lib.slowN; rw [if_neg (by omega),if_neg (by omega),if_neg (by omega),if_pos (by omega)])).symm) (fun g3=>Ev.opt (nI (i:=2) (by omega)) ?_)
   refine Ev.d (fun g4=>Ev.pure' (aDY hne (by rw [e]; unfold Lib.slowN; rw [if_neg (by omega),if_neg (by omega),if_neg (by omega),if_pos (by omega)])).symm) (fun g4=>Ev.opt (aKF (a:=3) (by omega)) ?_)
   have hd:dc l=(l[0]!.toNat % 16 * 4096+l[1]!.toNat % 64 * 64+l[2]!.toNat % 64,3):=by rw [e]; unfold Lib.slowN; rw [if_neg (by omega),if_neg (by omega),if_neg (by omega),if_neg (by omega),if_pos (by omega)]
   rw [aZL hne hd (by decide)]
   exact ih0 _ (by rw [List.length_drop]; omega)
  ·have e:=hD (low (z:=4) (by omega) (by decide))
   rw [show sz=4 by omega] at e
   refine Ev.d (fun hn=>Ev.pure' (aDY hne (by rw [e]; unfold Lib.slowN; rw [if_pos (by omega)])).symm) (fun hn=>Ev.opt (nI (i:=1) (by omega)) ?_)
   refine Ev.d (fun g=>Ev.pure' (aDY hne (by rw [e]; unfold Lib.slowN; rw [if_neg (by omega),if_pos (by omega)])).symm) (fun g=>Ev.opt (nI (i:=1) (by omega)) ?_)
   refine Ev.d (fun g2=>Ev.pure' (aDY hne (by rw [e]; unfold Lib.slowN; rw [if_neg (by omega),if_pos (by omega)])).symm) (fun g2=>Ev.opt (nI (i:=2) (by omega)) ?_)
   refine Ev.d (fun g3=>Ev.pure' (aDY hne (by rw [e]; unfold Lib.slowN; rw [if_neg (by omega),if_neg (by omega),if_neg (by omega),if_pos (by omega)])).symm) (fun g3=>Ev.opt (nI (i:=2) (by omega)) ?_)
   refine Ev.d (fun g4=>Ev.pure' (aDY hne (by rw [e]; unfold Lib.slowN; rw [if_neg (by omega),if_neg (by omega),if_neg (by omega),if_pos (by omega)])).symm) (fun g4=>Ev.opt (nI (i:=3) (by omega)) ?_)
   refine Ev.d (fun g5=>Ev.pure' (aDY hne (by rw [e]; unfold Lib.slowN; rw [if_neg (by omega),if_neg (by omega),if_neg (by omega),if_neg (by omega),if_neg (by omega),if_pos (by omega)])).symm) (fun g5=>Ev.opt (nI (i:=3) (by omega)) ?_)
   refine Ev.d (fun g6=>Ev.pure' (aDY hne (by rw [e]; unfold Lib.slowN; rw [if_neg (by omega),if_neg (by omega),if_neg (by omega),if_neg (by omega),if_neg (by omega),if_pos (by omega)])).symm) (fun g6=>Ev.opt (aKF (a:=4) (by omega)) ?_)
   have hd:dc l=(l[0]!.toNat % 8 * 262144+l[1]!.toNat % 64 * 4096+l[2]!.toNat % 64 * 64+l[3]!.toNat % 64,4):=by rw [e]; unfold Lib.slowN; rw [if_neg (by omega),if_neg (by omega),if_neg (by omega),if_neg (by omega),if_neg (by omega),if_neg (by omega)]
   rw [aZL hne hd (by decide)]
   exact ih0 _ (by rw [List.length_drop]; omega)
  ·refine Ev.pure' (aDY hne ?_).symm
   have h241:Lib.firstT l[0]!.toNat=241:=by
    refine p4.resolve_left fun hlt=>?_
    rcases Lib.firstT_low hlt with h | h | h | h | h | h | h
    ·have:=Lib.firstT_C2 h; omega
    ·have:=Lib.firstT_E0 h; omega
    ·have:=Lib.firstT_E1 h; omega
    ·have:=Lib.firstT_ED h; omega
    ·have:=Lib.firstT_F0 h; omega
    ·have:=Lib.firstT_F1 h; omega
    ·have:=Lib.firstT_F4 h; omega
   exact Lib.bad_eq _ _ _ _ _ hb h241

theorem bB9 (l:List UInt8) (h0:Ev (fun K=>aS K l) (V l)) (ih1:∀ t:List UInt8,t.length<l.length→Ev (fun K=>cY K t) (V t)) :
  Ev (fun K=>cY K l) (V l):=by
 refine Ev.step (fun k=>by rw [cY]) ?_
 refine Ev.d (fun h32=>?_) (fun _=>h0)
 have d8:(l.drop 8).length=l.length - 8:=List.length_drop
 have d16:(l.drop 16).length=l.length - 16:=List.length_drop
 have d24:(l.drop 24).length=l.length - 24:=List.length_drop
 refine Ev.opt (aKF (a:=8) (by omega)) (Ev.opt (aKF (a:=16) (by omega)) (Ev.opt (aKF (a:=24) (by omega)) ?_))
 refine Ev.bind (aIC (by omega)) (Ev.bind (aIC (by omega)) (Ev.opt (aS3 (mY _) (mY _)) (Ev.bind (aIC (by omega)) (Ev.bind (aIC (by omega)) (Ev.opt (aS3 (mY _) (mY _)) ?_)))))
 refine Ev.opt (aS3 (Nat.or_lt_two_pow (mY _) (mY _)) (Nat.or_lt_two_pow (mY _) (mY _))) (Ev.opt (aTl (Nat.or_lt_two_pow (Nat.or_lt_two_pow (mY _) (mY _)) (Nat.or_lt_two_pow (mY _) (mY _)))) ?_)
 refine Ev.d (fun hz=>?_) (fun _=>h0)
 obtain ⟨a,b⟩:=aSK (aST.1 hz)
 obtain ⟨a1,a2⟩:=aSK a
 obtain ⟨a3,a4⟩:=aSK b
 refine Ev.opt (aKF (a:=32) (by omega)) ?_
 have e1:=aIV (l:=l) (by omega) a1
 have e2:=aIV (l:=l.drop 8) (by omega) a2
 have e3:=aIV (l:=l.drop 16) (by omega) a3
 have e4:=aIV (l:=l.drop 24) (by omega) a4
 rw [List.drop_drop] at e2 e3 e4
 rw [← e1,← e2,← e3,← e4]
 exact ih1 _ (by rw [List.length_drop]; omega)

theorem aVg:∀ (n:Nat) (l:List UInt8),l.length=n→Ev (fun K=>aS K l) (V l)∧Ev (fun K=>cY K l) (V l):=by
 intro n
 induction n using Nat.strongRecOn with
 | ind n ih =>
  intro l hl
  have a:=bCr l (fun t ht=>(ih _ (by omega) t rfl).1) (fun t ht=>(ih _ (by omega) t rfl).2)
  exact ⟨a,bB9 l a (fun t ht=>(ih _ (by omega) t rfl).2)⟩
theorem bD5 (l:List UInt8):Ev (fun K=>utf8_ValidString K l) (V l):=(aVg _ l rfl).1.congr fun _=>rfl
end Go.Proofs.YtjhfgiieicloeaaGreatDoor

/- Plain facts of bytes, part 4: the reference's decoder. -/
namespace Go.Proofs.YtjhfgiieicloeaaGreatDoor
open Go Go.Am Go.Sx

def nx (l:List UInt8):Int×Int:=if dc l=(65533,1) then (0,0) else (((dc l).1:Nat),((dc l).2:Nat))

def bJw (b:UInt8):Prop:=128≤b.toNat∧b.toNat≤191
instance (b:UInt8):Decidable (bJw b):=by unfold bJw; infer_instance
end Go.Proofs.YtjhfgiieicloeaaGreatDoor

/- Plain facts of bytes, part 5: classes of runes. -/
namespace Go.Proofs.YtjhfgiieicloeaaGreatDoor
open Go Go.Am Go.Sx
def cls (r:Int):Int :=
 if (65≤r∧r≤90)∨(97≤r∧r≤122)∨r=95 then 1 else if 48≤r∧r≤57 then 2 else if r=32∨r=9∨r=10 then 3
 else if 128≤r∧r≤1114111∧r≠65533∧(r<55296∨57343<r) then 1 else 0
theorem bC9 (r:Int):Ev (fun K=>utf8_ValidRune K r) (decide ((0≤r∧r<55296)∨(57343<r∧r≤1114111))):=by
 refine Ev.congr (f:=fun K=>_) ?_ (fun K=>by rw [utf8_ValidRune])
 repeat' refine Ev.d (fun _=>?_) (fun _=>?_)
 all_goals first | exact Ev.pure' (decide_eq_true (by omega)).symm | exact Ev.pure' (decide_eq_false (by omega)).symm
set_option maxHeartbeats 4000000 in
theorem xQ (r:Int):Ev (fun K=>oR K r) (cls r):=by
 refine Ev.congr (f:=fun K=>_) ?_ (fun K=>by rw [oR])
 repeat' first | refine Ev.d (fun _=>?_) (fun _=>?_) | refine Ev.n (fun _=>?_) (fun _=>?_) | refine Ev.bind (bC9 r) ?_
 all_goals first | (exfalso; omega) | (refine Ev.pure' ?_; unfold cls; (repeat' split) <;> omega)
end Go.Proofs.YtjhfgiieicloeaaGreatDoor

/- Plain facts of bytes, part 6: a text's runes; names. -/
namespace Go.Proofs.YtjhfgiieicloeaaGreatDoor
open Go Go.Am Go.Sx

def aYm:Nat→List UInt8→List Int
 | 0,_=>[]
 | n+1,l=>if l=[] then [] else (((dc l).1:Nat):Int) :: aYm n (l.drop (dc l).2)
theorem bCg:∀ (n m:Nat) (l:List UInt8),l.length≤n→l.length≤m→aYm n l=aYm m l:=by
 intro n
 induction n with
 | zero =>
  intro m l h _
  obtain rfl:=List.length_eq_zero_iff.1 (Nat.le_zero.1 h)
  cases m <;> simp [aYm]
 | succ n ih =>
  intro m l h h2
  cases m with
  | zero =>
   obtain rfl:=List.length_eq_zero_iff.1 (Nat.le_zero.1 h2)
   simp [aYm]
  | succ m =>
   unfold aYm
   have:=aEL l
   split
   ·rfl
   ·rename_i hl
    have h1:1≤l.length:=by cases l with | nil=>exact absurd rfl hl | cons=>simp
    rw [ih m _ (by rw [List.length_drop]; omega) (by rw [List.length_drop]; omega)]
def rs (l:List UInt8):List Int:=aYm l.length l
theorem bDn:rs []=[]:=rfl
theorem aWB {l:List UInt8} (h:l≠[]):rs l=(((dc l).1:Nat):Int) :: rs (l.drop (dc l).2):=by
 unfold rs
 have h1:1≤l.length:=by cases l with | nil=>exact absurd rfl h | cons=>simp
 have hw:=aEL l
 obtain ⟨n,hn⟩:∃ n,l.length=n+1:=⟨l.length - 1,by omega⟩
 rw [hn]
 conv=>lhs; unfold aYm
 rw [if_neg h,bCg n _ _ (by rw [List.length_drop]; omega) (Nat.le_refl _)]
theorem aOv {l:List UInt8} {i:Nat} (h:i<l.length):l.drop i≠[]:=by
 intro e
 have:=congrArg List.length e
 rw [List.length_drop,List.length_nil] at this
 omega

def bAH:Bool→List Int→Bool
 | _,[]=>true
 | f,r :: t=>(decide (cls r=1) || (!f && (decide (cls r=2) || decide (r=39)))) && bAH false t

theorem aP9 (f:Bool) (r:Int) (t:List Int):bAH f (r :: t)=((decide (cls r=1) || (!f && (decide (cls r=2) || decide (r=39)))) && bAH false t):=rfl

theorem aU7 (s:List UInt8) (_hl:s.length≤1099511627776):∀ (m i:Nat),s.length - i≤m→i≤s.length→Ev (fun K=>kG K s (i:Int)) (bAH (decide (i=0)) (rs (s.drop i))):=by
 intro m
 induction m with
 | zero =>
  intro i hm hi
  have e:s.drop i=[]:=List.drop_of_length_le (by omega)
  refine Ev.step (fun k=>by rw [kG]) (Ev.dF (by omega) (Ev.pure' ?_))
  rw [e,bDn]; rfl
 | succ m ih =>
  intro i hm hi
  refine Ev.step (fun k=>by rw [kG]) ?_
  simp only [Int.toNat_natCast,sL]
  refine Ev.d (fun h=>?_) (fun h=>Ev.pure' ?_)
  ·have hne:=aOv h
   have hw:=aEL (s.drop i)
   have hle:=bEl hne
   rw [List.length_drop] at hle
   have nxt:=ih (i+(dc (s.drop i)).2) (by omega) (by omega)
   rw [show decide (i+(dc (s.drop i)).2=0)=false from decide_eq_false (by omega)] at nxt
   refine Ev.bind (xQ _) ?_
   rw [aWB hne,aP9,List.drop_drop]
   refine Ev.d (fun c1=>?_) (fun c1=>Ev.d (fun c2=>Ev.d (fun z=>Ev.pure' ?_) (fun z=>?_)) (fun c2=>Ev.d (fun z=>Ev.pure' ?_) (fun z=>Ev.n (fun q=>Ev.pure' ?_) (fun q=>?_))))
   ·rw [decide_eq_true c1]; simpa using nxt
   ·rw [decide_eq_false c1,decide_eq_true (show i=0 by omega)]; simp
   ·have:i≠0:=by omega
    simpa [c1,c2,this] using nxt
   ·rw [decide_eq_false c1,decide_eq_true (show i=0 by omega)]; simp
   ·simp [c1,c2,q]
   ·have:i≠0:=by omega
    simpa [c1,c2,q,this] using nxt
  ·have e:s.drop i=[]:=List.drop_of_length_le (by omega)
   rw [e,bDn]; rfl

def nmS (s:List UInt8):Bool:=decide (s≠[]) && (decide (s.length≤32) && (V s && bAH true (rs s)))
theorem aUO (s:List UInt8):Ev (fun K=>wF K s) (nmS s):=by
 refine Ev.congr (f:=fun K=>_) ?_ (fun K=>by rw [wF])
 unfold nmS
 refine Ev.d (fun h=>Ev.pure' (by simp [h])) (fun h=>Ev.d (fun h2=>Ev.pure' ?_) (fun h2=>Ev.bind (bD5 s) ?_))
 ·rw [decide_eq_false (show ¬ s.length≤32 by omega)]; simp
 ·rw [decide_eq_true (show s.length≤32 by omega),decide_eq_true h,Bool.true_and,Bool.true_and]
  refine Ev.is (fun hv=>Ev.pure' ?_) (fun hv=>?_)
  ·simp only [Bool.not_eq_true'] at hv; rw [hv]; rfl
  ·simp only [Bool.not_eq_false'] at hv
   rw [hv,Bool.true_and]
   have:=aU7 s (by omega) s.length 0 (by omega) (by omega)
   simpa using this

end Go.Proofs.YtjhfgiieicloeaaGreatDoor

/- Plain facts of bytes, part 7: words, names, what dots part. -/
namespace Go.Proofs.YtjhfgiieicloeaaGreatDoor
open Go Go.Am Go.Sx

def aWM:List (List UInt8):=(aDn 0).getD []
theorem bIb (k:Nat):aDn k=some aWM:=rfl
theorem bEm:aWM.length≤1000:=by decide

theorem aU2 (l:List (List UInt8)) (x:List UInt8) (hl:l.length≤1099511627776):∀ (m i:Nat),l.length - i≤m→i≤l.length→∃ r,Ev (fun K=>fK K l x (i:Int)) r∧(0≤r↔x∈l.drop i):=by
 intro m
 induction m with
 | zero =>
  intro i hm hi
  refine ⟨-1,Ev.step (fun k=>by rw [fK]) (Ev.dF (by omega) Ev.pure),?_⟩
  rw [List.drop_of_length_le (by omega)]; simp
 | succ m ih =>
  intro i hm hi
  by_cases hlt:i<l.length
  ·obtain ⟨r,h1,h2⟩:=ih (i+1) (by omega) (by omega)
   rw [iP hlt]
   by_cases e:x=l[i]
   ·refine ⟨i,Ev.step (fun k=>by rw [fK]) (Ev.dT (by omega) (Ev.opt (dX hlt) (Ev.dT e Ev.pure))),?_⟩
    exact ⟨fun _=>List.mem_cons.2 (.inl e),fun _=>by omega⟩
   ·refine ⟨r,Ev.step (fun k=>by rw [fK]) (Ev.dT (by omega) (Ev.opt (dX hlt) (Ev.dF e ?_))),?_⟩
    ·rw [cX (by omega)]; exact h1
    ·rw [h2,List.mem_cons]; exact ⟨.inr,fun h=>h.resolve_left e⟩
  ·refine ⟨-1,Ev.step (fun k=>by rw [fK]) (Ev.dF (by omega) Ev.pure),?_⟩
   rw [List.drop_of_length_le (by omega)]; simp
theorem aY8 (l:List (List UInt8)) (x:List UInt8) (hl:l.length≤1099511627776):Ev (fun K=>slices_Contains K l x) (decide (x∈l)):=by
 obtain ⟨r,h1,h2⟩:=aU2 l x hl l.length 0 (by omega) (by omega)
 refine Ev.congr (f:=fun K=>(fK K l x 0).bind fun v1=>some (decide (0≤v1))) (Ev.bind h1 (Ev.pure' ?_)) (fun K=>rfl)
 rw [List.drop_zero] at h2
 exact decide_eq_decide.2 h2
theorem aLe (s:List UInt8):Ev (fun K=>tW K s) (decide (s∈aWM)) :=
 Ev.congr (f:=fun K=>(slices_Contains K aWM s).bind fun v2=>some v2) (Ev.bind (aY8 aWM s (by have:=bEm; omega)) Ev.pure) fun K=>by rw [tW,bIb,Option.bind_some]
def mG (s:List UInt8):Bool:=nmS s && !decide (s∈aWM)
theorem hU (s:List UInt8):Ev (fun K=>eC K s) (mG s):=by
 refine Ev.congr (f:=fun K=>_) ?_ (fun K=>by rw [eC])
 unfold mG
 refine Ev.bind (aUO s) (Ev.is (fun h=>?_) (fun h=>Ev.pure' ?_))
 ·rw [h,Bool.true_and]; exact Ev.bind (aLe s) Ev.pure
 ·rw [h]; rfl
end Go.Proofs.YtjhfgiieicloeaaGreatDoor

/- Plain facts of bytes, part 8: what dots part; long names. -/
namespace Go.Proofs.YtjhfgiieicloeaaGreatDoor
open Go Go.Am Go.Sx

def pcs:List UInt8→List (List UInt8)
 | []=>[[]]
 | b :: t=>if b=46 then [] :: pcs t else (b :: (pcs t).headD []) :: (pcs t).tail
theorem bHT:∀ l,pcs l≠[]
 | []=>by simp [pcs]
 | b :: t=>by unfold pcs; split <;> simp
theorem bDq (l:List UInt8):pcs l=(pcs l).headD [] :: (pcs l).tail:=by
 have:=bHT l
 cases h:pcs l with
 | nil=>exact absurd h this
 | cons x xs=>rfl

theorem aPL:∀ l:List UInt8,(Lib.indexByte l 46=-1∧l.count 46=0∧pcs l=[l]) ∨
  (∃ m:Nat,Lib.indexByte l 46=(m:Int)∧m<l.length∧l.count 46=(l.drop (m+1)).count 46+1∧pcs l=l.take m :: pcs (l.drop (m+1)))
 | []=>.inl ⟨rfl,rfl,rfl⟩
 | b :: t=>by
  unfold Lib.indexByte
  by_cases hb:b=46
  ·subst hb
   refine .inr ⟨0,by simp,by simp,by simp,?_⟩
   simp [pcs]
  ·have hb':(b == (46:UInt8))=false:=by simpa using hb
   rcases aPL t with ⟨h1,h2,h3⟩ | ⟨m,h1,h2,h3,h4⟩
   ·refine .inl ⟨?_,?_,?_⟩
    ·simp [hb',h1]
    ·rw [List.count_cons,h2,hb']; rfl
    ·unfold pcs; rw [if_neg hb,h3]; rfl
   ·refine .inr ⟨m+1,?_,by simpa using h2,?_,?_⟩
    ·rw [h1,hb']
     simp only [Bool.false_eq_true,if_false]
     rw [if_neg (by simp)]
     omega
    ·rw [List.count_cons,hb',List.drop_succ_cons]; simpa using h3
    ·conv=>lhs; unfold pcs
     rw [if_neg hb,h4]; simp [List.take_succ_cons]

theorem take_set {α:Type} {a:List α} {i:Nat} (x:α) (h:i<a.length):(a.set i x).take (i+1)=a.take i++[x]:=by
 rw [oZ (by rw [List.length_set]; exact h),List.take_set_of_le (Nat.le_refl _),List.getElem_set_self]
theorem bIr (s:List UInt8):Ev (fun K=>strings_Index K s [46]) (Lib.indexByte s 46):=⟨0,fun _ _=>rfl⟩
theorem aU9 (n:Nat) (hn:n≤1099511627776):∀ (m i:Nat) (s:List UInt8) (a:List (List UInt8)),n - i≤m→i+s.count 46=n→a.length=n+1→s.length≤1099511627776 →
  Ev (fun K=>gA K s [46] 0 (n:Int) a (i:Int)) (a.take i++pcs s):=by
 intro m
 induction m with
 | zero =>
  intro i s a hm hi ha hs
  have hc:s.count 46=0:=by omega
  have hp:pcs s=[s]:=by
   rcases aPL s with ⟨_,_,h⟩ | ⟨_,_,_,h,_⟩
   ·exact h
   ·omega
  refine Ev.step (fun k=>by rw [gA]) (Ev.dF (by omega) (Ev.iteT (by omega) (Ev.opt (dX (j:=i) (by omega)) ?_)))
  rw [cX (by omega)]
  refine Ev.opt (xO (a:=0) (by omega) (by rw [List.length_set]; omega)) (Ev.pure' ?_)
  rw [List.drop_zero,Int.toNat_natCast,take_set _ (by omega),hp]
 | succ m ih =>
  intro i s a hm hi ha hs
  refine Ev.step (fun k=>by rw [gA]) (Ev.d (fun h=>?_) (fun h=>?_))
  ·refine Ev.bind (bIr s) ?_
   rcases aPL s with ⟨_,h2,_⟩ | ⟨j,h1,h2,h3,h4⟩
   ·omega
   rw [h1]
   refine Ev.dF (by omega) ?_
   rw [Int.add_zero,nC (x:=(j:Int)) (by omega) (by omega)]
   refine Ev.opt (xO (a:=0) (by omega) (by omega)) (Ev.iteT (by omega) (Ev.opt (dX (j:=i) (by omega)) ?_))
   rw [List.drop_zero,Int.toNat_natCast,cX (by omega)]
   have e:IntKind.i64.wrap ((j:Int)+(([46]:List UInt8).length:Nat))=((j+1:Nat):Int):=by rw [nC (by simp; omega) (by simp; omega)]; simp
   rw [e]
   refine Ev.opt (aKF (a:=j+1) (by omega)) ?_
   have:=ih (i+1) (s.drop (j+1)) (a.set i (s.take j)) (by omega) (by omega) (by rw [List.length_set]; exact ha) (by rw [List.length_drop]; omega)
   rw [take_set _ (by omega),List.append_assoc] at this
   rw [h4]
   exact this
  ·have hc:s.count 46=0:=by omega
   have hp:pcs s=[s]:=by
    rcases aPL s with ⟨_,_,h⟩ | ⟨_,_,_,h,_⟩
    ·exact h
    ·omega
   refine Ev.iteT (by omega) (Ev.opt (dX (j:=i) (by omega)) ?_)
   rw [cX (by omega)]
   refine Ev.opt (xO (a:=0) (by omega) (by rw [List.length_set]; omega)) (Ev.pure' ?_)
   rw [List.drop_zero,Int.toNat_natCast,take_set _ (by omega),hp]

theorem bDx (s:List UInt8) (hs:s.length≤100000000000):Ev (fun K=>strings_Split K s [46]) (pcs s):=by
 refine Ev.congr (f:=fun K=>_) ?_ (fun K=>by rw [strings_Split])
 refine Ev.bind (a:=pcs s) ?_ Ev.pure
 refine Ev.congr (f:=fun K=>_) ?_ (fun K=>by rw [strings_genSplit])
 refine Ev.dF (by decide) (Ev.dF (by decide) (Ev.dT (by decide) (Ev.bind (a:=((s.count 46:Nat):Int)) ⟨0,fun _ _=>rfl⟩ ?_)))
 have hc:s.count 46≤s.length:=List.count_le_length
 rw [cX (by omega)]
 refine Ev.step (fun k=>by rw [kV]) ?_
 rw [cX (n:=s.length) (by omega)]
 have e:(if ((s.length+1:Nat):Int)<((s.count 46+1:Nat):Int) then ((s.length+1:Nat):Int) else ((s.count 46+1:Nat):Int))=((s.count 46+1:Nat):Int):=if_neg (by omega)
 rw [e]
 refine Ev.opt (bAb (by omega)) ?_
 rw [nC (by omega) (by omega),show ((s.count 46+1:Nat):Int) - 1=((s.count 46:Nat):Int) by omega]
 have:=aU9 (s.count 46) (by omega) (s.count 46) 0 s (List.replicate (s.count 46+1) []) (by omega) (by omega) (by simp) (by omega)
 simpa using this

end Go.Proofs.YtjhfgiieicloeaaGreatDoor

/- Plain facts of bytes, part 9: long names. -/
namespace Go.Proofs.YtjhfgiieicloeaaGreatDoor
open Go Go.Am Go.Sx

def lgS (s:List UInt8):Bool:=decide (s.length≤128) && (pcs s).all mG
theorem bA0:∀ s:List UInt8,(pcs s).length≤s.length+1
 | []=>by simp [pcs]
 | b :: t=>by
  have:=bA0 t
  unfold pcs
  split
  ·simp; omega
  ·simp only [List.length_cons,List.length_tail]; omega
theorem aYk (l:List (List UInt8)) (hl:l.length≤1099511627776):∀ (m i:Nat),l.length - i≤m→i≤l.length→∃ r,Ev (fun K=>cJ K l (i:Int)) r∧(0≤r↔(l.drop i).all mG=false):=by
 intro m
 induction m with
 | zero =>
  intro i hm hi
  refine ⟨-1,Ev.step (fun k=>by rw [cJ]) (Ev.dF (by omega) Ev.pure),?_⟩
  rw [List.drop_of_length_le (by omega)]; simp
 | succ m ih =>
  intro i hm hi
  by_cases hlt:i<l.length
  ·obtain ⟨r,h1,h2⟩:=ih (i+1) (by omega) (by omega)
   have ck:Ev (fun K=>aBO K l[i]) (!mG l[i]):=Ev.congr (f:=fun K=>(eC K l[i]).bind fun v1=>some (!v1)) (Ev.bind (hU _) Ev.pure) fun K=>by rw [aBO]
   rw [iP hlt,List.all_cons]
   cases hc:mG l[i] with
   | false =>
    refine ⟨i,Ev.step (fun k=>by rw [cJ]) (Ev.dT (by omega) (Ev.opt (dX hlt) (Ev.bind ck (Ev.isT (c:=!mG l[i]) (by rw [hc]; rfl) Ev.pure)))),?_⟩
    simp
   | true =>
    refine ⟨r,Ev.step (fun k=>by rw [cJ]) (Ev.dT (by omega) (Ev.opt (dX hlt) (Ev.bind ck (Ev.isF (c:=!mG l[i]) (by rw [hc]; rfl) ?_)))),?_⟩
    ·rw [cX (by omega)]; exact h1
    ·rw [h2,Bool.true_and]
  ·refine ⟨-1,Ev.step (fun k=>by rw [cJ]) (Ev.dF (by omega) Ev.pure),?_⟩
   rw [List.drop_of_length_le (by omega)]; simp
theorem aBe (s:List UInt8):Ev (fun K=>lR K s) (lgS s):=by
 refine Ev.congr (f:=fun K=>_) ?_ (fun K=>by rw [lR])
 unfold lgS
 refine Ev.d (fun h=>?_) (fun h=>Ev.pure' (by rw [decide_eq_false (show ¬ s.length≤128 by omega)]; rfl))
 have hp:=bA0 s
 refine Ev.bind (bDx s (by omega)) ?_
 obtain ⟨r,h1,h2⟩:=aYk (pcs s) (by omega) (pcs s).length 0 (by omega) (by omega)
 refine Ev.bind (a:=decide (0≤r)) (Ev.congr (f:=fun K=>(cJ K (pcs s) 0).bind fun v1=>some (decide (0≤v1))) (Ev.bind h1 Ev.pure) fun K=>by rw [pU,uG]) (Ev.pure' ?_)
 rw [List.drop_zero] at h2
 rw [decide_eq_true (show s.length≤128 by omega),Bool.true_and]
 cases hc:(pcs s).all mG with
 | true=>rw [decide_eq_false (by rw [h2,hc]; simp)]; rfl
 | false=>rw [decide_eq_true (h2.2 hc)]; rfl
end Go.Proofs.YtjhfgiieicloeaaGreatDoor

/- Answers of conditions; a node's name. -/
namespace Go.Proofs.YtjhfgiieicloeaaGreatDoor
open Go Go.Am Go.Sx

section
variable {α β:Type}
theorem Ev.cast {f:Nat→Option α} {a b:α} (h:Ev f a) (e:a=b):Ev f b:=e ▸ h
theorem Ev.ret {f:Nat→Option α} {a:α} (h:Ev f a):Ev (fun K=>(f K).bind fun v=>some v) a:=Ev.bind h Ev.pure
theorem Ev.andB {f g:Nat→Option Bool} {a b:Bool} (h:Ev f a) (k:a=true→Ev g b):Ev (fun K=>(f K).bind fun v=>iteS v (g K) (some false)) (a && b):=by
 refine Ev.bind h ?_
 cases a
 ·exact Ev.isF rfl Ev.pure
 ·exact Ev.isT rfl (k rfl)
theorem Ev.andN {f g:Nat→Option Bool} {a b:Bool} (h:Ev f a) (k:a=true→Ev g b):Ev (fun K=>(f K).bind fun v=>iteS (!v) (some false) (g K)) (a && b):=by
 refine Ev.bind h ?_
 cases a
 ·exact Ev.isT rfl Ev.pure
 ·exact Ev.isF rfl (k rfl)
theorem Ev.orB {f g:Nat→Option Bool} {a b:Bool} (h:Ev f a) (k:Ev g b):Ev (fun K=>(f K).bind fun v=>iteS v (some true) (g K)) (a || b):=by
 refine Ev.bind h ?_
 cases a
 ·exact Ev.isF rfl k
 ·exact Ev.isT rfl Ev.pure
theorem Ev.andD {p:Prop} [Decidable p] {g:Nat→Option Bool} {b:Bool} (k:p→Ev g b):Ev (fun K=>iteS (decide p) (g K) (some false)) (decide p && b):=by
 by_cases h:p
 ·rw [decide_eq_true h]; exact Ev.isT rfl (k h)
 ·rw [decide_eq_false h]; exact Ev.isF rfl Ev.pure
theorem Ev.andDN {p:Prop} [Decidable p] {g:Nat→Option Bool} {b:Bool} (k:p→Ev g b):Ev (fun K=>iteS (!decide p) (some false) (g K)) (decide p && b):=by
 by_cases h:p
 ·rw [decide_eq_true h]; exact Ev.isF rfl (k h)
 ·rw [decide_eq_false h]; exact Ev.isT rfl Ev.pure
end

def nameOf:Tr→List UInt8
 | .nil=>[]
 | .node _ _ nm _ _=>nm
theorem aRu:∀ (l:List (List UInt8×Bool)) (a s:List UInt8) (v:Bool),jD (aEE l a v) s=if s=a then some v else jD l s
 | [],a,s,v=>by
  by_cases h:s=a
  ·subst h; simp [aEE,jD]
  ·have h':¬ a=s:=fun e=>h e.symm
   simp [aEE,jD,h,h']
 | p :: l,a,s,v=>by
  have ih:=aRu l a s v
  by_cases h:p.1=a
  ·by_cases h2:s=a
   ·subst h2; simp [aEE,jD,h]
   ·have h':¬ a=s:=fun e=>h2 e.symm
    have h3:¬ p.1=s:=fun e=>h2 (e.symm.trans h)
    simp [aEE,jD,h,h2,h']
  ·by_cases h2:p.1=s
   ·have h3:¬ s=a:=fun e=>h (h2.trans e)
    simp [aEE,jD,h2,h3]
   ·simp only [aEE,jD,h,h2,decide_false,Bool.false_eq_true,if_false]
    exact ih
theorem aUr {sn:List (List UInt8×Bool)} {a s:List UInt8}:(jD (aEE sn a true) s).getD false=if s=a then true else (jD sn s).getD false:=by
 rw [aRu]
 split <;> rfl
end Go.Proofs.YtjhfgiieicloeaaGreatDoor

/- Functions that come to something of which a proposition is true. -/
namespace Go.Proofs.YtjhfgiieicloeaaGreatDoor
open Go Go.Am Go.Sx
section
variable {α β:Type} {Q:α→Prop}
def Hs (f:Nat→Option α) (Q:α→Prop):Prop:=∃ v,Ev f v∧Q v
theorem Hs.pure {v:α} (h:Q v):Hs (fun _=>some v) Q:=⟨v,Ev.pure,h⟩
theorem Hs.bind {f:Nat→Option β} {g:β→Nat→Option α} {R:β→Prop} (h:Hs f R) (k:∀ a,R a→Hs (g a) Q):Hs (fun K=>(f K).bind fun x=>g x K) Q:=by
 obtain ⟨a,h1,h2⟩:=h
 obtain ⟨b,k1,k2⟩:=k a h2
 exact ⟨b,Ev.bind h1 k1,k2⟩
theorem Hs.evb {f:Nat→Option β} {g:β→Nat→Option α} {a:β} (h:Ev f a) (k:Hs (g a) Q):Hs (fun K=>(f K).bind fun x=>g x K) Q:=by
 obtain ⟨b,k1,k2⟩:=k
 exact ⟨b,Ev.bind h k1,k2⟩
theorem Hs.opt {x:Option β} {g:β→Nat→Option α} {a:β} (h:x=some a) (k:Hs (g a) Q):Hs (fun K=>x.bind fun y=>g y K) Q:=by
 subst h; exact k
theorem Hs.step {F G:Nat→Option α} (h:∀ k,F (k+1)=G k) (k:Hs G Q):Hs F Q:=by
 obtain ⟨b,k1,k2⟩:=k
 exact ⟨b,Ev.step h k1,k2⟩
theorem Hs.congr {f g:Nat→Option α} (h:Hs f Q) (e:∀ k,g k=f k):Hs g Q:=by
 obtain ⟨b,k1,k2⟩:=h
 exact ⟨b,Ev.congr k1 e,k2⟩
theorem Hs.is {c:Bool} {f g:Nat→Option α} (h1:c=true→Hs f Q) (h2:c=false→Hs g Q):Hs (fun K=>iteS c (f K) (g K)) Q:=by
 cases c
 ·exact h2 rfl
 ·exact h1 rfl
theorem Hs.d {p:Prop} [Decidable p] {f g:Nat→Option α} (h1:p→Hs f Q) (h2:¬ p→Hs g Q):Hs (fun K=>iteS (decide p) (f K) (g K)) Q :=
 Hs.is (fun h=>h1 (of_decide_eq_true h)) (fun h=>h2 (of_decide_eq_false h))
theorem Hs.n {p:Prop} [Decidable p] {f g:Nat→Option α} (h1:¬ p→Hs f Q) (h2:p→Hs g Q):Hs (fun K=>iteS (!decide p) (f K) (g K)) Q:=by
 by_cases hp:p
 ·obtain ⟨b,k1,k2⟩:=h2 hp
  exact ⟨b,Ev.nF hp k1,k2⟩
 ·obtain ⟨b,k1,k2⟩:=h1 hp
  exact ⟨b,Ev.nT hp k1,k2⟩
end

end Go.Proofs.YtjhfgiieicloeaaGreatDoor

