/- Joined texts: P0, C0, U1, U2, U3, U4, U5, U6, U7, U8, U9, S0, H0. -/
import Derived.Test.YtjhfgiieicloeaaGreatDoorGc
import Derived.Test.YtjhfgiieicloeaaGreatDoorGf
import Derived.Lib.ValidU
import Derived.Lib.DecodeNEq
/- Plain facts: functions with fuel that come to an answer; numbers that do not wrap; lists looked up at numbers. -/
namespace Go.Am
open Go

def Ev {α:Type} (f:Nat→Option α) (v:α):Prop:=∃ N,∀ K,N≤K→f K=some v

section
variable {α β:Type}
theorem Ev.pure {v:α}:Ev (fun _=>some v) v:=⟨0,fun _ _=>rfl⟩
theorem Ev.pure' {u v:α} (h:u=v):Ev (fun _=>some u) v:=h ▸ Ev.pure
theorem Ev.bind {f:Nat→Option α} {g:α→Nat→Option β} {a:α} {b:β} (h:Ev f a) (k:Ev (g a) b):Ev (fun K=>(f K).bind fun x=>g x K) b:=by
 obtain ⟨N,hN⟩:=h
 obtain ⟨M,hM⟩:=k
 refine ⟨max N M,fun K hK=>?_⟩
 have h1:=hN K (by omega)
 have h2:=hM K (by omega)
 simp only [h1,Option.bind_some,h2]
theorem Ev.opt {x:Option α} {g:α→Nat→Option β} {a:α} {b:β} (h:x=some a) (k:Ev (g a) b):Ev (fun K=>x.bind fun y=>g y K) b:=by
 subst h; exact k
theorem Ev.step {F G:Nat→Option α} {v:α} (h:∀ k,F (k+1)=G k) (k:Ev G v):Ev F v:=by
 obtain ⟨N,hN⟩:=k
 refine ⟨N+1,fun K hK=>?_⟩
 obtain ⟨K',rfl⟩:∃ K',K=K' + 1:=⟨K - 1,by omega⟩
 rw [h]; exact hN K' (by omega)
theorem Ev.iteT {c:Prop} [Decidable c] {f g:Nat→Option α} {v:α} (hc:c) (h:Ev f v):Ev (fun K=>if c then f K else g K) v:=by
 simp only [if_pos hc]; exact h
theorem Ev.iteF {c:Prop} [Decidable c] {f g:Nat→Option α} {v:α} (hc:¬ c) (h:Ev g v):Ev (fun K=>if c then f K else g K) v:=by
 simp only [if_neg hc]; exact h
theorem Ev.ite {c:Prop} [Decidable c] {f g:Nat→Option α} {v:α} (h1:c→Ev f v) (h2:¬ c→Ev g v):Ev (fun K=>if c then f K else g K) v:=by
 by_cases hc:c
 ·exact Ev.iteT hc (h1 hc)
 ·exact Ev.iteF hc (h2 hc)
theorem Ev.isT {c:Bool} {f g:Nat→Option α} {v:α} (hc:c=true) (h:Ev f v):Ev (fun K=>Sx.iteS c (f K) (g K)) v:=by
 subst hc; exact h
theorem Ev.isF {c:Bool} {f g:Nat→Option α} {v:α} (hc:c=false) (h:Ev g v):Ev (fun K=>Sx.iteS c (f K) (g K)) v:=by
 subst hc; exact h
theorem Ev.is {c:Bool} {f g:Nat→Option α} {v:α} (h1:c=true→Ev f v) (h2:c=false→Ev g v):Ev (fun K=>Sx.iteS c (f K) (g K)) v:=by
 cases c
 ·exact Ev.isF rfl (h2 rfl)
 ·exact Ev.isT rfl (h1 rfl)
theorem Ev.dT {p:Prop} [Decidable p] {f g:Nat→Option α} {v:α} (hc:p) (h:Ev f v):Ev (fun K=>Sx.iteS (decide p) (f K) (g K)) v:=Ev.isT (decide_eq_true hc) h
theorem Ev.dF {p:Prop} [Decidable p] {f g:Nat→Option α} {v:α} (hc:¬ p) (h:Ev g v):Ev (fun K=>Sx.iteS (decide p) (f K) (g K)) v:=Ev.isF (decide_eq_false hc) h
theorem Ev.d {p:Prop} [Decidable p] {f g:Nat→Option α} {v:α} (h1:p→Ev f v) (h2:¬ p→Ev g v):Ev (fun K=>Sx.iteS (decide p) (f K) (g K)) v:=by
 by_cases hc:p
 ·exact Ev.dT hc (h1 hc)
 ·exact Ev.dF hc (h2 hc)
theorem Ev.nT {p:Prop} [Decidable p] {f g:Nat→Option α} {v:α} (hc:¬ p) (h:Ev f v):Ev (fun K=>Sx.iteS (!decide p) (f K) (g K)) v:=Ev.isT (by simp [hc]) h
theorem Ev.nF {p:Prop} [Decidable p] {f g:Nat→Option α} {v:α} (hc:p) (h:Ev g v):Ev (fun K=>Sx.iteS (!decide p) (f K) (g K)) v:=Ev.isF (by simp [hc]) h
theorem Ev.n {p:Prop} [Decidable p] {f g:Nat→Option α} {v:α} (h1:¬ p→Ev f v) (h2:p→Ev g v):Ev (fun K=>Sx.iteS (!decide p) (f K) (g K)) v:=by
 by_cases hc:p
 ·exact Ev.nF hc (h2 hc)
 ·exact Ev.nT hc (h1 hc)
theorem Ev.unique {f:Nat→Option α} {u v:α} (h:Ev f u) (k:Ev f v):u=v:=by
 obtain ⟨N,hN⟩:=h
 obtain ⟨M,hM⟩:=k
 have h1:=hN (max N M) (by omega)
 have h2:=hM (max N M) (by omega)
 rw [h1] at h2
 exact Option.some.inj h2
theorem Ev.get {f:Nat→Option α} {v:α} (h:Ev f v):∃ K,f K=some v:=⟨_,h.choose_spec _ (Nat.le_refl _)⟩
theorem Ev.congr {f g:Nat→Option α} {v:α} (h:Ev f v) (e:∀ k,g k=f k):Ev g v:=by
 obtain ⟨N,hN⟩:=h
 exact ⟨N,fun K hK=>(e K).trans (hN K hK)⟩

theorem fP {x:Int} (h1:-9223372036854775808≤x) (h2:x≤9223372036854775807):IntKind.i64.wrap x=x:=by
 show (if (true && decide (x % 18446744073709551616 ≥ 9223372036854775808))=true then x % 18446744073709551616 - 18446744073709551616 else x % 18446744073709551616)=x
 simp only [Bool.true_and,decide_eq_true_eq]
 split <;> omega

theorem wrap32 {x:Int} (h1:0≤x) (h2:x≤2147483647):IntKind.i32.wrap x=x:=by
 show (if (true && decide (x % 4294967296 ≥ 2147483648))=true then x % 4294967296 - 4294967296 else x % 4294967296)=x
 simp only [Bool.true_and,decide_eq_true_eq]
 split <;> omega
theorem bFY {x:Int} (h1:0≤x) (h2:x≤255):IntKind.u8.wrap x=x:=by
 show (if (false && decide (x % 256 ≥ 128))=true then x % 256 - 256 else x % 256)=x
 simp only [Bool.false_and,Bool.false_eq_true,if_false]
 omega
theorem aQf (b:UInt8):b.toNat<256:=b.toNat_lt
theorem dE {n:Nat} (h:n<9223372036854775807):IntKind.i64.wrap ((n:Int)+1)=((n+1:Nat):Int):=by
 rw [fP (by omega) (by omega)]; omega

theorem aOV {l:List α} {j:Nat}:aZ l (j:Int)=l[j]?:=by
 unfold aZ; rw [if_pos (by omega)]; rfl
theorem eM {l:List α} {j:Nat} (h:j<l.length):aZ l (j:Int)=some l[j]:=by
 rw [aOV,List.getElem?_eq_getElem h]
theorem aWZ {l:List α} {x:Int} (h0:0≤x) (h:x.toNat<l.length):aZ l x=some l[x.toNat]:=by
 unfold aZ; rw [if_pos h0,List.getElem?_eq_getElem h]

theorem dP {by':Nat} {l m:List α} (h:(l.length+m.length) * by'≤140737488355328):aCb by' l m=some (l++m):=by
 unfold aCb; rw [if_pos h]
theorem bGk {by':Nat} {z:α} {n:Nat} (h:n * by'≤140737488355328):mkL by' z (n:Int)=some (List.replicate n z):=by
 unfold mkL; rw [if_pos ⟨by omega,by simpa using h⟩]; rfl
theorem vH {l:List α} {a b:Nat} (h1:a≤b) (h2:b≤l.length):kA l (a:Int) (b:Int)=some ((l.take b).drop a):=by
 unfold kA; rw [if_pos ⟨by omega,by omega,by omega⟩]; rfl
theorem bR {l r:List UInt8} (h:l.length+r.length≤9223372036854775807):catS l r=some (l++r):=by
 unfold catS; rw [if_pos h]

def Tr.w:Tr→Nat
 | .nil=>1
 | .node _ _ _ _ ks=>1+go ks
where go:List Tr→Nat
 | []=>0
 | k :: ks=>k.w+go ks

abbrev wL (l:List Tr):Nat:=Tr.w.go l
theorem aI:wL []=0:=by simp [Tr.w.go]
theorem aC (k:Tr) (ks:List Tr):wL (k :: ks)=k.w+wL ks:=by simp [Tr.w.go]
theorem aH {k n nm mk ks}:(Tr.node k n nm mk ks).w=1+wL ks:=by simp [Tr.w]
theorem aU5 (t:Tr):1≤t.w:=by cases t <;> simp [Tr.w]
theorem aB1 {k:Tr}:∀ {l:List Tr},k∈l→k.w≤wL l
 | x :: l,h=>by
  rw [aC]
  rcases List.mem_cons.1 h with rfl | h
  ·omega
  ·have:=aB1 h; omega
theorem aCR:∀ (l:List Tr),l.length≤wL l
 | []=>by simp
 | k :: l=>by rw [aC]; have:=aCR l; have:=aU5 k; simp; omega
theorem aHo:∀ (l m:List Tr),wL (l++m)=wL l+wL m
 | [],m=>by simp [aI]
 | k :: l,m=>by rw [List.cons_append,aC,aC,aHo l m]; omega

theorem Tr.ind {p:Tr→Prop} (h0:p .nil) (h1:∀ k n nm mk ks,(∀ x∈ks,p x)→p (.node k n nm mk ks)):∀ t,p t:=by
 have:∀ n (t:Tr),t.w≤n→p t:=by
  intro n
  induction n with
  | zero=>intro t h; have:=aU5 t; omega
  | succ n ih =>
   intro t h
   cases t with
   | nil=>exact h0
   | node k m nm mk ks =>
    refine h1 _ _ _ _ _ fun x hx=>ih x ?_
    rw [aH] at h
    have:=aB1 hx
    omega
 exact fun t=>this t.w t (Nat.le_refl _)

theorem kM {l:List α} {i:Nat} (h:i<l.length):l.drop i=l[i] :: l.drop (i+1):=List.drop_eq_getElem_cons h
theorem aAM {l:List α} {i:Nat} (h:i<l.length):l.take (i+1)=l.take i++[l[i]]:=by
 rw [List.take_add_one,List.getElem?_eq_getElem h]; rfl
end
end Go.Am

/- The cells of a tree, as typed values. -/
namespace Go.Proofs.YtjhfgiieicloeaaGreatDoor
open Go Go.Am Go.Sx
abbrev Cell:=Int×Int×List UInt8×List UInt8×List Int
theorem bES {n m:Nat}:(if (m:Int)<(n:Int) then (m:Int) else (n:Int))=((min n m:Nat):Int):=by split <;> omega
theorem bB2 {α:Type} {l:List α} {m:Nat}:(l.take (min l.length m)).drop 0=l.take m:=by
 rw [List.drop_zero]
 rcases Nat.le_total l.length m with h | h
 ·rw [Nat.min_eq_left h,List.take_length,List.take_of_length_le h]
 ·rw [Nat.min_eq_right h]
theorem bD3 {α:Type} {l:List α} {m:Nat}:kA l 0 (if (m:Int)<(((l.length:Nat):Int)) then (m:Int) else (((l.length:Nat):Int)))=some (l.take m):=by
 rw [bES,show (0:Int)=((0:Nat):Int) from rfl,vH (by omega) (by omega),bB2]
end Go.Proofs.YtjhfgiieicloeaaGreatDoor

/- Plain facts of bytes, part 1: words of eight bytes that are all below 128. -/
namespace Go.Proofs.YtjhfgiieicloeaaGreatDoor
open Go Go.Am Go.Sx

theorem bAE {w m:Nat} (h:m<2 ^ w):(BitVec.ofInt w (m:Int)).toNat=m:=by
 rw [BitVec.ofInt_natCast,BitVec.toNat_ofNat,Nat.mod_eq_of_lt h]
theorem wrap64 {n:Nat} (h:n<18446744073709551616):IntKind.u64.wrap (n:Int)=(n:Int):=by
 show (if (false && decide ((n:Int) % 18446744073709551616 ≥ 9223372036854775808))=true then (n:Int) % 18446744073709551616 - 18446744073709551616 else (n:Int) % 18446744073709551616)=n
 simp only [Bool.false_and,Bool.false_eq_true,if_false]
 omega
theorem aRu {m:Nat} (h:m<2 ^ 64):(BitVec.ofInt IntKind.u64.bits (m:Int)).toNat=m:=bAE (w:=64) h
theorem aTy {m n:Nat} (hm:m<2 ^ 64) (hn:n<2 ^ 64):qC .or .u64 (m:Int) (n:Int)=some ((m ||| n:Nat):Int):=by
 unfold qC
 rw [if_neg (by simp)]
 simp only [BitVec.toNat_or,aRu hm,aRu hn]
 rw [wrap64 (by have:=Nat.or_lt_two_pow hm hn; omega)]
theorem bIC {m n:Nat} (hm:m<2 ^ 64) (hn:n<2 ^ 64):qC .and .u64 (m:Int) (n:Int)=some ((m &&& n:Nat):Int):=by
 unfold qC
 rw [if_neg (by simp)]
 simp only [BitVec.toNat_and,aRu hm,aRu hn]
 rw [wrap64 (by have:=Nat.and_lt_two_pow m hn; omega)]
theorem bIH {m n:Nat} (hm:m<256) (hn:n≤56):shI .shl .u64 (m:Int) (n:Int)=some ((m <<< n:Nat):Int):=by
 unfold shI
 rw [if_neg (by simp)]
 simp only [show IntKind.u64.bits=64 from rfl,Int.toNat_natCast,Nat.min_eq_left (show n≤64 by omega),Nat.shiftLeft_eq]
 have h1:m * 2 ^ n<18446744073709551616:=calc
  m * 2 ^ n<256 * 2 ^ n:=Nat.mul_lt_mul_of_pos_right hm (Nat.two_pow_pos n)
  _≤256 * 2 ^ 56:=Nat.mul_le_mul_left _ (Nat.pow_le_pow_right (by decide) hn)
  _=18446744073709551616:=by decide
 rw [← wrap64 h1]
 simp
theorem bCo (b:UInt8):IntKind.u64.wrap ((b.toNat:Nat):Int)=((b.toNat:Nat):Int):=wrap64 (by have:=aQf b; omega)

def aOl (l:List UInt8):Nat:=((((((((l[0]!.toNat) ||| (l[1]!.toNat <<< 8)) ||| (l[2]!.toNat <<< 16)) ||| (l[3]!.toNat <<< 24)) ||| (l[4]!.toNat <<< 32)) ||| (l[5]!.toNat <<< 40)) ||| (l[6]!.toNat <<< 48)) ||| (l[7]!.toNat <<< 56))
theorem bBU {m n:Nat} (hm:m<256) (hn:n≤56):m <<< n<2 ^ 64:=by
 rw [Nat.shiftLeft_eq]
 calc m * 2 ^ n<256 * 2 ^ n:=Nat.mul_lt_mul_of_pos_right hm (Nat.two_pow_pos n)
  _≤256 * 2 ^ 56:=Nat.mul_le_mul_left _ (Nat.pow_le_pow_right (by decide) hn)
  _=2 ^ 64:=by decide
theorem nD (l:List UInt8):aOl l<2 ^ 64:=by
 unfold aOl
 have b:∀ i:Nat,l[i]!.toNat<256:=fun i=>aQf _
 repeat first | exact Nat.lt_trans (b 0) (by decide) | refine Nat.or_lt_two_pow ?_ (bBU (b _) (by decide))
theorem nO {l:List UInt8} {i:Nat} (h:i<l.length):aZ l ((i:Nat):Int)=some l[i]!:=by
 rw [eM h,getElem!_pos l i h]

theorem bCy (k:Nat) (l:List UInt8) (h:8≤l.length):utf8_word k l=some (aOl l:Int):=by
 have g:∀ i:Nat,i<8→aZ l ((i:Nat):Int)=some l[i]!:=fun i hi=>nO (by omega)
 have b:∀ i:Nat,l[i]!.toNat<256:=fun i=>aQf _
 have s:∀ i n:Nat,n≤56→shI .shl .u64 ((l[i]!.toNat:Nat):Int) (n:Int)=some ((l[i]!.toNat <<< n:Nat):Int):=fun i n hn=>bIH (b i) hn
 have sl:∀ i n:Nat,n≤56→l[i]!.toNat <<< n<2 ^ 64:=fun i n hn=>bBU (b i) hn
 have b64:∀ i:Nat,l[i]!.toNat<2 ^ 64:=fun i=>Nat.lt_trans (b i) (by decide)
 have o:∀ m n:Nat,m<2 ^ 64→n<2 ^ 64→m ||| n<2 ^ 64:=fun m n=>Nat.or_lt_two_pow
 have g0:aZ l 0=some l[0]!:=g 0 (by decide); have g1:aZ l 1=some l[1]!:=g 1 (by decide); have g2:aZ l 2=some l[2]!:=g 2 (by decide); have g3:aZ l 3=some l[3]!:=g 3 (by decide)
 have g4:aZ l 4=some l[4]!:=g 4 (by decide); have g5:aZ l 5=some l[5]!:=g 5 (by decide); have g6:aZ l 6=some l[6]!:=g 6 (by decide); have g7:aZ l 7=some l[7]!:=g 7 (by decide)
 have s1:shI .shl .u64 ((l[1]!.toNat:Nat):Int) 8=some ((l[1]!.toNat <<< 8:Nat):Int):=s 1 8 (by decide); have s2:shI .shl .u64 ((l[2]!.toNat:Nat):Int) 16=some ((l[2]!.toNat <<< 16:Nat):Int):=s 2 16 (by decide); have s3:shI .shl .u64 ((l[3]!.toNat:Nat):Int) 24=some ((l[3]!.toNat <<< 24:Nat):Int):=s 3 24 (by decide); have s4:shI .shl .u64 ((l[4]!.toNat:Nat):Int) 32=some ((l[4]!.toNat <<< 32:Nat):Int):=s 4 32 (by decide)
 have s5:shI .shl .u64 ((l[5]!.toNat:Nat):Int) 40=some ((l[5]!.toNat <<< 40:Nat):Int):=s 5 40 (by decide); have s6:shI .shl .u64 ((l[6]!.toNat:Nat):Int) 48=some ((l[6]!.toNat <<< 48:Nat):Int):=s 6 48 (by decide); have s7:shI .shl .u64 ((l[7]!.toNat:Nat):Int) 56=some ((l[7]!.toNat <<< 56:Nat):Int):=s 7 56 (by decide)
 have t1:=o _ _ (b64 0) (sl 1 8 (by decide))
 have t2:=o _ _ t1 (sl 2 16 (by decide))
 have t3:=o _ _ t2 (sl 3 24 (by decide))
 have t4:=o _ _ t3 (sl 4 32 (by decide))
 have t5:=o _ _ t4 (sl 5 40 (by decide))
 have t6:=o _ _ t5 (sl 6 48 (by decide))
 unfold utf8_word aOl
 simp only [g0,g1,g2,g3,g4,g5,g6,g7,Option.bind_some,bCo,s1,s2,s3,s4,s5,s6,s7]
 rw [aTy (b64 0) (sl 1 8 (by decide)),Option.bind_some,aTy t1 (sl 2 16 (by decide)),Option.bind_some,aTy t2 (sl 3 24 (by decide)),Option.bind_some,aTy t3 (sl 4 32 (by decide)),Option.bind_some,
  aTy t4 (sl 5 40 (by decide)),Option.bind_some,aTy t5 (sl 6 48 (by decide)),Option.bind_some,aTy t6 (sl 7 56 (by decide)),Option.bind_some]

theorem bI5 {b:UInt8} (h:b.toNat.testBit 7=false):b.toNat<128:=by
 rw [Nat.testBit_eq_decide_div_mod_eq,decide_eq_false_iff_not] at h
 have:=aQf b
 omega
theorem bDG {w n:Nat} (h:w &&& 9259542123273814144=0) (hn:(9259542123273814144:Nat).testBit n=true):w.testBit n=false:=by
 have:=congrArg (fun x=>Nat.testBit x n) h
 simpa [Nat.testBit_and,hn] using this
theorem aX5 {l:List UInt8} (h:aOl l &&& 9259542123273814144=0):∀ i,i<8→l[i]!.toNat<128:=by
 have key:∀ i,i<8→(aOl l).testBit (8 * i+7)=false:=fun i hi=>bDG h (by
  match i,hi with
  | 0,_ | 1,_ | 2,_ | 3,_ | 4,_ | 5,_ | 6,_ | 7,_=>decide)
 intro i hi
 have k:=key i hi
 refine bI5 ?_
 unfold aOl at k
 simp only [Nat.testBit_or,Nat.testBit_shiftLeft,Bool.or_eq_false_iff] at k
 obtain ⟨⟨⟨⟨⟨⟨⟨k0,k1⟩,k2⟩,k3⟩,k4⟩,k5⟩,k6⟩,k7⟩:=k
 match i,hi with
 | 0,_=>simpa using k0
 | 1,_=>simpa using k1
 | 2,_=>simpa using k2
 | 3,_=>simpa using k3
 | 4,_=>simpa using k4
 | 5,_=>simpa using k5
 | 6,_=>simpa using k6
 | 7,_=>simpa using k7
end Go.Proofs.YtjhfgiieicloeaaGreatDoor

/- Plain facts of bytes, part 2: the rune at a place; texts that are valid. -/
namespace Go.Proofs.YtjhfgiieicloeaaGreatDoor
open Go Go.Am Go.Sx

theorem bDr (l:List UInt8) (i:Nat):(⟨l.toArray⟩:ByteArray).get! i=l[i]!:=by
 simp [ByteArray.get!]
theorem size_mk (l:List UInt8):(⟨l.toArray⟩:ByteArray).size=l.length:=by simp [ByteArray.size]
def dc (l:List UInt8):Nat×Nat:=Lib.decodeN l.length l[0]!.toNat l[1]!.toNat l[2]!.toNat l[3]!.toNat
theorem aUO (l:List UInt8) (i j:Nat):(l.drop i)[j]! = l[i+j]!:=by
 simp [List.getElem!_eq_getElem?_getD]
theorem mC (l:List UInt8) (i:Nat):fY l i=dc (l.drop i):=by
 unfold fY dc
 rw [Lib.decode_at]
 simp only [bDr,size_mk,aUO,List.length_drop,Nat.add_zero]
theorem aSI (l:List UInt8):Lib.decodeL l=dc l:=by
 have:=mC l 0
 rw [List.drop_zero] at this
 exact this
theorem oD (l:List UInt8):1≤(dc l).2:=by rw [← aSI]; exact Lib.decodeL_width l
theorem aWN {l:List UInt8} (h:l[0]!.toNat<128):dc l=(l[0]!.toNat,1):=by
 unfold dc Lib.decodeN; rw [if_pos h]
theorem aOt {l:List UInt8} (h:l≠[]):(dc l).2≤l.length:=by
 have h1:1≤l.length:=by cases l with | nil=>exact absurd rfl h | cons=>simp
 unfold dc Lib.decodeN
 repeat' split
 all_goals simp only
 all_goals omega

def V (l:List UInt8):Bool:=Lib.validD l
theorem aVX:∀ (n m:Nat) (l:List UInt8),l.length≤n→l.length≤m→Lib.validGoD n l=Lib.validGoD m l:=by
 intro n
 induction n with
 | zero =>
  intro m l h _
  obtain rfl:=List.length_eq_zero_iff.1 (Nat.le_zero.1 h)
  cases m <;> simp [Lib.validGoD]
 | succ n ih =>
  intro m l h h2
  cases m with
  | zero =>
   obtain rfl:=List.length_eq_zero_iff.1 (Nat.le_zero.1 h2)
   simp [Lib.validGoD]
  | succ m =>
   unfold Lib.validGoD
   have:=Lib.decodeL_width l
   split
   ·rfl
   ·rename_i hl
    have h1:1≤l.length:=by cases l with | nil=>exact absurd rfl hl | cons=>simp
    split
    ·rfl
    ·exact ih m _ (by rw [List.length_drop]; omega) (by rw [List.length_drop]; omega)
theorem aYm {l:List UInt8} (h:l≠[]):V l=if dc l=(65533,1) then false else V (l.drop (dc l).2):=by
 unfold V Lib.validD
 have h1:1≤l.length:=by cases l with | nil=>exact absurd rfl h | cons=>simp
 have hw:=oD l
 obtain ⟨n,hn⟩:∃ n,l.length=n+1:=⟨l.length - 1,by omega⟩
 rw [hn]
 conv=>lhs; unfold Lib.validGoD
 rw [if_neg h,aSI]
 have e:((dc l).1=65533∧(dc l).2=1)↔dc l=(65533,1):=by rw [Prod.ext_iff]
 simp only [e]
 split
 ·rfl
 ·exact aVX _ _ _ (by rw [List.length_drop]; omega) (Nat.le_refl _)
theorem aZ7 {l:List UInt8} (h:l≠[]) (h1:l[0]!.toNat<128):V l=V (l.drop 1):=by
 rw [aYm h,aWN h1,if_neg]
 intro e
 have:=congrArg Prod.fst e
 simp only at this
 omega
theorem aW4:∀ (n:Nat) {l:List UInt8},n≤l.length→(∀ i,i<n→l[i]!.toNat<128)→V l=V (l.drop n)
 | 0,l,_,_=>by rw [List.drop_zero]
 | n+1,l,h,hi=>by
  have hl:l≠[]:=by intro e; subst e; simp at h
  rw [aZ7 hl (hi 0 (by omega)),aW4 n (l:=l.drop 1) (by rw [List.length_drop]; omega) (fun i h2=>by rw [aUO,Nat.add_comm 1 i]; exact hi (i+1) (by omega)),List.drop_drop,Nat.add_comm 1 n]
end Go.Proofs.YtjhfgiieicloeaaGreatDoor

/- Plain facts of bytes, part 3: utf8.ValidString. -/
namespace Go.Proofs.YtjhfgiieicloeaaGreatDoor
open Go Go.Am Go.Sx

theorem aGb {l:List UInt8} {a:Nat} (h:a≤l.length):kA l (a:Int) ((l.length:Nat):Int)=some (l.drop a):=by
 rw [vH h (Nat.le_refl _),List.take_length]
theorem aYl:∀ b,b<256→aZ aYC ((b:Nat):Int)=some ((Lib.firstT b:Nat):Int):=by decide +kernel
theorem aW5:∀ b,b<256→128≤b→qC .and .u8 ((Lib.firstT b:Nat):Int) 7=some ((Lib.firstT b % 8:Nat):Int)∧shI .shr .u8 ((Lib.firstT b:Nat):Int) 4=some ((Lib.firstT b / 16:Nat):Int) ∧
  aZ aYz ((Lib.firstT b / 16:Nat):Int)=some (((Lib.accLo (Lib.firstT b / 16):Nat):Int),((Lib.accHi (Lib.firstT b / 16):Nat):Int))∧(Lib.firstT b<240∨Lib.firstT b=241):=by decide +kernel
theorem aSm {w:Nat} (h:w<2 ^ 64):qC .and .u64 (w:Int) 9259542123273814144=some ((w &&& 9259542123273814144:Nat):Int):=bIC h (by decide)
theorem aRo {a b m:Nat} (h:(a ||| b) &&& m=0):a &&& m=0∧b &&& m=0:=by
 rw [Nat.and_or_distrib_right] at h
 exact Nat.or_eq_zero_iff.1 h
theorem aIG {l:List UInt8} (h:8≤l.length):Ev (fun K=>utf8_word K l) ((aOl l:Nat):Int):=⟨0,fun K _=>bCy K l h⟩

theorem aIC {l:List UInt8} (h:8≤l.length) (hm:aOl l &&& 9259542123273814144=0):V (l.drop 8)=V l:=(aW4 8 h (aX5 hm)).symm

theorem aTv {n:Nat}:((n:Nat):Int)=0↔n=0:=by omega
theorem bG8 {l:List UInt8} (h:¬ 0<((l.length:Nat):Int)):l=[]:=List.length_eq_zero_iff.1 (by omega)

theorem bE7 {l:List UInt8} (ih0:∀ t:List UInt8,t.length≤l.length→Ev (fun K=>aV K t) (V t)) (ih1:∀ t:List UInt8,t.length≤l.length→Ev (fun K=>dH K t) (V t)) :
  Ev (fun k1=>(iteS (decide (8<((l.length:Nat):Int))) ((utf8_word k1 l).bind fun v4=>((qC .and .u64 v4 9259542123273814144).bind fun v5=>(iteS (decide (v5=0)) ((kA l 8 ((l.length:Nat):Int)).bind fun v6=>(iteS (decide (16<((v6.length:Nat):Int))) ((kA v6 8 ((v6.length:Nat):Int)).bind fun v7=>((utf8_word k1 v6).bind fun v8=>((utf8_word k1 v7).bind fun v9=>((qC .or .u64 v8 v9).bind fun v10=>((qC .and .u64 v10 9259542123273814144).bind fun v11=>(iteS (decide (v11=0)) ((kA v6 16 ((v6.length:Nat):Int)).bind fun v12=>(dH k1 v12)) (aV k1 v6))))))) (aV k1 v6))) (aV k1 l)))) (aV k1 l))) (V l):=by
 refine Ev.d (fun h8=>?_) (fun _=>ih0 l (Nat.le_refl _))
 have h8':8≤l.length:=by omega
 refine Ev.bind (aIG h8') (Ev.opt (aSm (nD l)) ?_)
 refine Ev.d (fun hz=>?_) (fun _=>ih0 l (Nat.le_refl _))
 have e8:=aIC h8' (aTv.1 hz)
 refine Ev.opt (aGb (a:=8) h8') ?_
 rw [← e8]
 refine Ev.d (fun h16=>?_) (fun _=>ih0 _ (by rw [List.length_drop]; omega))
 have hl:(l.drop 8).length=l.length - 8:=List.length_drop
 refine Ev.opt (aGb (a:=8) (by omega)) (Ev.bind (aIG (by omega)) (Ev.bind (aIG (by rw [List.length_drop]; omega)) ?_))
 refine Ev.opt (aTy (nD _) (nD _)) (Ev.opt (aSm (Nat.or_lt_two_pow (nD _) (nD _))) ?_)
 refine Ev.d (fun hz2=>?_) (fun _=>ih0 _ (by omega))
 obtain ⟨a1,a2⟩:=aRo (aTv.1 hz2)
 have e16:=aIC (l:=l.drop 8) (by omega) a1
 have e24:=aIC (l:=(l.drop 8).drop 8) (by rw [List.length_drop]; omega) a2
 refine Ev.opt (aGb (a:=16) (by omega)) ?_
 have e:((l.drop 8).drop 8).drop 8=(l.drop 8).drop 16:=by simp only [List.drop_drop]
 rw [← e16,← e24,e]
 exact ih1 _ (by rw [List.length_drop]; omega)

theorem aD7 {l:List UInt8} (h:l≠[]) (hd:dc l=(65533,1)):V l=false:=by rw [aYm h,if_pos hd]
theorem aZa {l:List UInt8} {r n:Nat} (h:l≠[]) (hd:dc l=(r,n)) (hn:n≠1):V l=V (l.drop n):=by
 rw [aYm h,hd,if_neg (by intro e; exact hn (congrArg Prod.snd e))]

theorem bAK (l:List UInt8) (ih0:∀ t:List UInt8,t.length<l.length→Ev (fun K=>aV K t) (V t)) (ih1:∀ t:List UInt8,t.length<l.length→Ev (fun K=>dH K t) (V t)) :
  Ev (fun K=>aV K l) (V l):=by
 refine Ev.step (fun k=>by rw [aV]) ?_
 refine Ev.d (fun h0=>?_) (fun h0=>by rw [bG8 h0]; exact Ev.pure)
 have hp:0<l.length:=by omega
 have hne:l≠[]:=by intro e; subst e; simp at hp
 refine Ev.opt (nO (i:=0) hp) ?_
 refine Ev.d (fun ha=>?_) (fun ha=>?_)
 ·have e1:=aZ7 hne (show l[0]!.toNat<128 by omega)
  refine Ev.opt (aGb (a:=1) hp) ?_
  rw [e1]
  have hl:(l.drop 1).length=l.length - 1:=List.length_drop
  exact bE7 (l:=l.drop 1) (fun t ht=>ih0 t (by omega)) (fun t ht=>ih1 t (by omega))
 ·have hb:l[0]!.toNat<256:=aQf _
  obtain ⟨p1,p2,p3,p4⟩:=aW5 _ hb (by omega)
  refine Ev.opt (aYl _ hb) (Ev.opt p1 (Ev.opt p2 (Ev.opt p3 ?_)))
  have hsz:IntKind.i64.wrap ((Lib.firstT l[0]!.toNat % 8:Nat):Int)=((Lib.firstT l[0]!.toNat % 8:Nat):Int):=fP (by omega) (by omega)
  rw [hsz]
  have hD:Lib.firstT l[0]!.toNat<240→dc l=Lib.slowN l.length l[0]!.toNat l[1]!.toNat l[2]!.toNat l[3]!.toNat (Lib.firstT l[0]!.toNat % 8) (Lib.accLo (Lib.firstT l[0]!.toNat / 16)) (Lib.accHi (Lib.firstT l[0]!.toNat / 16)) :=
   fun h=>(Lib.slow_eq _ _ _ _ _ hp (aQf _) (aQf _) (aQf _) h).symm
  generalize hlo:Lib.accLo (Lib.firstT l[0]!.toNat / 16)=lo at *
  generalize hhi:Lib.accHi (Lib.firstT l[0]!.toNat / 16)=hi at *
  generalize hs:Lib.firstT l[0]!.toNat % 8=sz at *
  have low:∀ {z:Nat},sz=z→z≠1→Lib.firstT l[0]!.toNat<240:=fun h1 h2=>p4.resolve_right fun e=>by rw [e] at hs; omega
  refine Ev.d (fun h2=>?_) (fun h2=>Ev.d (fun h3=>?_) (fun h3=>Ev.d (fun h4=>?_) (fun h4=>?_)))
  ·have e:=hD (low (z:=2) (by omega) (by decide))
   rw [show sz=2 by omega] at e
   refine Ev.d (fun hn=>Ev.pure' (aD7 hne (by rw [e]; unfold Lib.slowN; rw [if_pos (by omega)])).symm) (fun hn=>Ev.opt (nO (i:=1) (by omega)) ?_)
   refine Ev.d (fun g=>Ev.pure' (aD7 hne (by rw [e]; unfold Lib.slowN; rw [if_neg (by omega),if_pos (by omega)])).symm) (fun g=>Ev.opt (nO (i:=1) (by omega)) ?_)
   refine Ev.d (fun g2=>Ev.pure' (aD7 hne (by rw [e]; unfold Lib.slowN; rw [if_neg (by omega),if_pos (by omega)])).symm) (fun g2=>Ev.opt (aGb (a:=2) (by omega)) ?_)
   have hd:dc l=(l[0]!.toNat % 32 * 64+l[1]!.toNat % 64,2):=by rw [e]; unfold Lib.slowN; rw [if_neg (by omega),if_neg (by omega),if_pos (by omega)]
   rw [aZa hne hd (by decide)]
   exact ih0 _ (by rw [List.length_drop]; omega)
  ·have e:=hD (low (z:=3) (by omega) (by decide))
   rw [show sz=3 by omega] at e
   refine Ev.d (fun hn=>Ev.pure' (aD7 hne (by rw [e]; unfold Lib.slowN; rw [if_pos (by omega)])).symm) (fun hn=>Ev.opt (nO (i:=1) (by omega)) ?_)
   refine Ev.d (fun g=>Ev.pure' (aD7 hne (by rw [e]; unfold Lib.slowN; rw [if_neg (by omega),if_pos (by omega)])).symm) (fun g=>Ev.opt (nO (i:=1) (by omega)) ?_)
   refine Ev.d (fun g2=>Ev.pure' (aD7 hne (by rw [e]; unfold Lib.slowN; rw [if_neg (by omega),if_pos (by omega)])).symm) (fun g2=>Ev.opt (nO (i:=2) (by omega)) ?_)
   refine Ev.d (fun g3=>Ev.pure' (aD7 hne (by rw [e]; unfold Lib.slowN; rw [if_neg (by omega),if_neg (by omega),if_neg (by omega),if_pos (by omega)])).symm) (fun g3=>Ev.opt (nO (i:=2) (by omega)) ?_)
   refine Ev.d (fun g4=>Ev.pure' (aD7 hne (by rw [e]; unfold Lib.slowN; rw [if_neg (by omega),if_neg (by omega),if_neg (by omega),if_pos (by omega)])).symm) (fun g4=>Ev.opt (aGb (a:=3) (by omega)) ?_)
   have hd:dc l=(l[0]!.toNat % 16 * 4096+l[1]!.toNat % 64 * 64+l[2]!.toNat % 64,3):=by rw [e]; unfold Lib.slowN; rw [if_neg (by omega),if_neg (by omega),if_neg (by omega),if_neg (by omega),if_pos (by omega)]
   rw [aZa hne hd (by decide)]
   exact ih0 _ (by rw [List.length_drop]; omega)
  ·have e:=hD (low (z:=4) (by omega) (by decide))
   rw [show sz=4 by omega] at e
   refine Ev.d (fun hn=>Ev.pure' (aD7 hne (by rw [e]; unfold Lib.slowN; rw [if_pos (by omega)])).symm) (fun hn=>Ev.opt (nO (i:=1) (by omega)) ?_)
   refine Ev.d (fun g=>Ev.pure' (aD7 hne (by rw [e]; unfold Lib.slowN; rw [if_neg (by omega),if_pos (by omega)])).symm) (fun g=>Ev.opt (nO (i:=1) (by omega)) ?_)
   refine Ev.d (fun g2=>Ev.pure' (aD7 hne (by rw [e]; unfold Lib.slowN; rw [if_neg (by omega),if_pos (by omega)])).symm) (fun g2=>Ev.opt (nO (i:=2) (by omega)) ?_)
   refine Ev.d (fun g3=>Ev.pure' (aD7 hne (by rw [e]; unfold Lib.slowN; rw [if_neg (by omega),if_neg (by omega),if_neg (by omega),if_pos (by omega)])).symm) (fun g3=>Ev.opt (nO (i:=2) (by omega)) ?_)
   refine Ev.d (fun g4=>Ev.pure' (aD7 hne (by rw [e]; unfold Lib.slowN; rw [if_neg (by omega),if_neg (by omega),if_neg (by omega),if_pos (by omega)])).symm) (fun g4=>Ev.opt (nO (i:=3) (by omega)) ?_)
   refine Ev.d (fun g5=>Ev.pure' (aD7 hne (by rw [e]; unfold Lib.slowN; rw [if_neg (by omega),if_neg (by omega),if_neg (by omega),if_neg (by omega),if_neg (by omega),if_pos (by omega)])).symm) (fun g5=>Ev.opt (nO (i:=3) (by omega)) ?_)
   refine Ev.d (fun g6=>Ev.pure' (aD7 hne (by rw [e]; unfold Lib.slowN; rw [if_neg (by omega),if_neg (by omega),if_neg (by omega),if_neg (by omega),if_neg (by omega),if_pos (by omega)])).symm) (fun g6=>Ev.opt (aGb (a:=4) (by omega)) ?_)
   have hd:dc l=(l[0]!.toNat % 8 * 262144+l[1]!.toNat % 64 * 4096+l[2]!.toNat % 64 * 64+l[3]!.toNat % 64,4):=by rw [e]; unfold Lib.slowN; rw [if_neg (by omega),if_neg (by omega),if_neg (by omega),if_neg (by omega),if_neg (by omega),if_neg (by omega)]
   rw [aZa hne hd (by decide)]
   exact ih0 _ (by rw [List.length_drop]; omega)
  ·refine Ev.pure' (aD7 hne ?_).symm
   have h241:Lib.firstT l[0]!.toNat=241:=by
    refine p4.resolve_left fun hlt=>?_
    rcases Lib.firstT_low hlt with h | h | h | h | h | h | h
    ·have:=Lib.firstT_C2 h; omega
    ·have:=Lib.firstT_E0 h; omega
    ·have:=Lib.firstT_E1 h; omega
    ·have:=Lib.firstT_ED h; omega
    ·have:=Lib.firstT_F0 h; omega
    ·have:=Lib.firstT_F1 h; omega
    ·have:=Lib.firstT_F4 h; omega
   exact Lib.bad_eq _ _ _ _ _ hb h241

theorem bAy (l:List UInt8) (h0:Ev (fun K=>aV K l) (V l)) (ih1:∀ t:List UInt8,t.length<l.length→Ev (fun K=>dH K t) (V t)) :
  Ev (fun K=>dH K l) (V l):=by
 refine Ev.step (fun k=>by rw [dH]) ?_
 refine Ev.d (fun h32=>?_) (fun _=>h0)
 have d8:(l.drop 8).length=l.length - 8:=List.length_drop
 have d16:(l.drop 16).length=l.length - 16:=List.length_drop
 have d24:(l.drop 24).length=l.length - 24:=List.length_drop
 refine Ev.opt (aGb (a:=8) (by omega)) (Ev.opt (aGb (a:=16) (by omega)) (Ev.opt (aGb (a:=24) (by omega)) ?_))
 refine Ev.bind (aIG (by omega)) (Ev.bind (aIG (by omega)) (Ev.opt (aTy (nD _) (nD _)) (Ev.bind (aIG (by omega)) (Ev.bind (aIG (by omega)) (Ev.opt (aTy (nD _) (nD _)) ?_)))))
 refine Ev.opt (aTy (Nat.or_lt_two_pow (nD _) (nD _)) (Nat.or_lt_two_pow (nD _) (nD _))) (Ev.opt (aSm (Nat.or_lt_two_pow (Nat.or_lt_two_pow (nD _) (nD _)) (Nat.or_lt_two_pow (nD _) (nD _)))) ?_)
 refine Ev.d (fun hz=>?_) (fun _=>h0)
 obtain ⟨a,b⟩:=aRo (aTv.1 hz)
 obtain ⟨a1,a2⟩:=aRo a
 obtain ⟨a3,a4⟩:=aRo b
 refine Ev.opt (aGb (a:=32) (by omega)) ?_
 have e1:=aIC (l:=l) (by omega) a1
 have e2:=aIC (l:=l.drop 8) (by omega) a2
 have e3:=aIC (l:=l.drop 16) (by omega) a3
 have e4:=aIC (l:=l.drop 24) (by omega) a4
 rw [List.drop_drop] at e2 e3 e4
 rw [← e1,← e2,← e3,← e4]
 exact ih1 _ (by rw [List.length_drop]; omega)

theorem aTK:∀ (n:Nat) (l:List UInt8),l.length=n→Ev (fun K=>aV K l) (V l)∧Ev (fun K=>dH K l) (V l):=by
 intro n
 induction n using Nat.strongRecOn with
 | ind n ih =>
  intro l hl
  have a:=bAK l (fun t ht=>(ih _ (by omega) t rfl).1) (fun t ht=>(ih _ (by omega) t rfl).2)
  exact ⟨a,bAy l a (fun t ht=>(ih _ (by omega) t rfl).2)⟩
theorem bBO (l:List UInt8):Ev (fun K=>utf8_ValidString K l) (V l):=(aTK _ l rfl).1.congr fun _=>rfl
end Go.Proofs.YtjhfgiieicloeaaGreatDoor

/- Plain facts of bytes, part 4: the reference's decoder. -/
namespace Go.Proofs.YtjhfgiieicloeaaGreatDoor
open Go Go.Am Go.Sx

def nx (l:List UInt8):Int×Int:=if dc l=(65533,1) then (0,0) else (((dc l).1:Nat),((dc l).2:Nat))

def bIY (b:UInt8):Prop:=128≤b.toNat∧b.toNat≤191
instance (b:UInt8):Decidable (bIY b):=by unfold bIY; infer_instance
end Go.Proofs.YtjhfgiieicloeaaGreatDoor

/- Plain facts of bytes, part 5: classes of runes. -/
namespace Go.Proofs.YtjhfgiieicloeaaGreatDoor
open Go Go.Am Go.Sx
def cls (r:Int):Int :=
 if (65≤r∧r≤90)∨(97≤r∧r≤122)∨r=95 then 1 else if 48≤r∧r≤57 then 2 else if r=32∨r=9∨r=10 then 3
 else if 128≤r∧r≤1114111∧r≠65533∧(r<55296∨57343<r) then 1 else 0
theorem bDj (r:Int):Ev (fun K=>utf8_ValidRune K r) (decide ((0≤r∧r<55296)∨(57343<r∧r≤1114111))):=by
 refine Ev.congr (f:=fun K=>_) ?_ (fun K=>by rw [utf8_ValidRune])
 repeat' refine Ev.d (fun _=>?_) (fun _=>?_)
 all_goals first | exact Ev.pure' (decide_eq_true (by omega)).symm | exact Ev.pure' (decide_eq_false (by omega)).symm
set_option maxHeartbeats 4000000 in
theorem qH (r:Int):Ev (fun K=>oS K r) (cls r):=by
 refine Ev.congr (f:=fun K=>_) ?_ (fun K=>by rw [oS])
 repeat' first | refine Ev.d (fun _=>?_) (fun _=>?_) | refine Ev.n (fun _=>?_) (fun _=>?_) | refine Ev.bind (bDj r) ?_
 all_goals first | (exfalso; omega) | (refine Ev.pure' ?_; unfold cls; (repeat' split) <;> omega)
end Go.Proofs.YtjhfgiieicloeaaGreatDoor

/- Plain facts of bytes, part 6: a text's runes; names. -/
namespace Go.Proofs.YtjhfgiieicloeaaGreatDoor
open Go Go.Am Go.Sx

def aXV:Nat→List UInt8→List Int
 | 0,_=>[]
 | n+1,l=>if l=[] then [] else (((dc l).1:Nat):Int) :: aXV n (l.drop (dc l).2)
theorem bA0:∀ (n m:Nat) (l:List UInt8),l.length≤n→l.length≤m→aXV n l=aXV m l:=by
 intro n
 induction n with
 | zero =>
  intro m l h _
  obtain rfl:=List.length_eq_zero_iff.1 (Nat.le_zero.1 h)
  cases m <;> simp [aXV]
 | succ n ih =>
  intro m l h h2
  cases m with
  | zero =>
   obtain rfl:=List.length_eq_zero_iff.1 (Nat.le_zero.1 h2)
   simp [aXV]
  | succ m =>
   unfold aXV
   have:=oD l
   split
   ·rfl
   ·rename_i hl
    have h1:1≤l.length:=by cases l with | nil=>exact absurd rfl hl | cons=>simp
    rw [ih m _ (by rw [List.length_drop]; omega) (by rw [List.length_drop]; omega)]
def rs (l:List UInt8):List Int:=aXV l.length l
theorem bCa:rs []=[]:=rfl
theorem aVl {l:List UInt8} (h:l≠[]):rs l=(((dc l).1:Nat):Int) :: rs (l.drop (dc l).2):=by
 unfold rs
 have h1:1≤l.length:=by cases l with | nil=>exact absurd rfl h | cons=>simp
 have hw:=oD l
 obtain ⟨n,hn⟩:∃ n,l.length=n+1:=⟨l.length - 1,by omega⟩
 rw [hn]
 conv=>lhs; unfold aXV
 rw [if_neg h,bA0 n _ _ (by rw [List.length_drop]; omega) (Nat.le_refl _)]
theorem aOw {l:List UInt8} {i:Nat} (h:i<l.length):l.drop i≠[]:=by
 intro e
 have:=congrArg List.length e
 rw [List.length_drop,List.length_nil] at this
 omega

def aYW:Bool→List Int→Bool
 | _,[]=>true
 | f,r :: t=>(decide (cls r=1) || (!f && (decide (cls r=2) || decide (r=39)))) && aYW false t

theorem aPB (f:Bool) (r:Int) (t:List Int):aYW f (r :: t)=((decide (cls r=1) || (!f && (decide (cls r=2) || decide (r=39)))) && aYW false t):=rfl

theorem aUq (s:List UInt8) (_hl:s.length≤1099511627776):∀ (m i:Nat),s.length - i≤m→i≤s.length→Ev (fun K=>kQ K s (i:Int)) (aYW (decide (i=0)) (rs (s.drop i))):=by
 intro m
 induction m with
 | zero =>
  intro i hm hi
  have e:s.drop i=[]:=List.drop_of_length_le (by omega)
  refine Ev.step (fun k=>by rw [kQ]) (Ev.dF (by omega) (Ev.pure' ?_))
  rw [e,bCa]; rfl
 | succ m ih =>
  intro i hm hi
  refine Ev.step (fun k=>by rw [kQ]) ?_
  simp only [Int.toNat_natCast,mC]
  refine Ev.d (fun h=>?_) (fun h=>Ev.pure' ?_)
  ·have hne:=aOw h
   have hw:=oD (s.drop i)
   have hle:=aOt hne
   rw [List.length_drop] at hle
   have nxt:=ih (i+(dc (s.drop i)).2) (by omega) (by omega)
   rw [show decide (i+(dc (s.drop i)).2=0)=false from decide_eq_false (by omega)] at nxt
   refine Ev.bind (qH _) ?_
   rw [aVl hne,aPB,List.drop_drop]
   refine Ev.d (fun c1=>?_) (fun c1=>Ev.d (fun c2=>Ev.d (fun z=>Ev.pure' ?_) (fun z=>?_)) (fun c2=>Ev.d (fun z=>Ev.pure' ?_) (fun z=>Ev.n (fun q=>Ev.pure' ?_) (fun q=>?_))))
   ·rw [decide_eq_true c1]; simpa using nxt
   ·rw [decide_eq_false c1,decide_eq_true (show i=0 by omega)]; simp
   ·have:i≠0:=by omega
    simpa [c1,c2,this] using nxt
   ·rw [decide_eq_false c1,decide_eq_true (show i=0 by omega)]; simp
   ·simp [c1,c2,q]
   ·have:i≠0:=by omega
    simpa [c1,c2,q,this] using nxt
  ·have e:s.drop i=[]:=List.drop_of_length_le (by omega)
   rw [e,bCa]; rfl

def nmS (s:List UInt8):Bool:=decide (s≠[]) && (decide (s.length≤32) && (V s && aYW true (rs s)))
theorem aOx (s:List UInt8):Ev (fun K=>uL K s) (nmS s):=by
 refine Ev.congr (f:=fun K=>_) ?_ (fun K=>by rw [uL])
 unfold nmS
 refine Ev.d (fun h=>Ev.pure' (by simp [h])) (fun h=>Ev.d (fun h2=>Ev.pure' ?_) (fun h2=>Ev.bind (bBO s) ?_))
 ·rw [decide_eq_false (show ¬ s.length≤32 by omega)]; simp
 ·rw [decide_eq_true (show s.length≤32 by omega),decide_eq_true h,Bool.true_and,Bool.true_and]
  refine Ev.is (fun hv=>Ev.pure' ?_) (fun hv=>?_)
  ·simp only [Bool.not_eq_true'] at hv; rw [hv]; rfl
  ·simp only [Bool.not_eq_false'] at hv
   rw [hv,Bool.true_and]
   have:=aUq s (by omega) s.length 0 (by omega) (by omega)
   simpa using this

end Go.Proofs.YtjhfgiieicloeaaGreatDoor

/- Plain facts of bytes, part 7: words, names, what dots part. -/
namespace Go.Proofs.YtjhfgiieicloeaaGreatDoor
open Go Go.Am Go.Sx

def aNI:List (List UInt8):=(aDv 0).getD []
theorem bHf (k:Nat):aDv k=some aNI:=rfl
theorem bB3:aNI.length≤1000:=by decide

theorem aTH (l:List (List UInt8)) (x:List UInt8) (hl:l.length≤1099511627776):∀ (m i:Nat),l.length - i≤m→i≤l.length→∃ r,Ev (fun K=>gC K l x (i:Int)) r∧(0≤r↔x∈l.drop i):=by
 intro m
 induction m with
 | zero =>
  intro i hm hi
  refine ⟨-1,Ev.step (fun k=>by rw [gC]) (Ev.dF (by omega) Ev.pure),?_⟩
  rw [List.drop_of_length_le (by omega)]; simp
 | succ m ih =>
  intro i hm hi
  by_cases hlt:i<l.length
  ·obtain ⟨r,h1,h2⟩:=ih (i+1) (by omega) (by omega)
   rw [kM hlt]
   by_cases e:x=l[i]
   ·refine ⟨i,Ev.step (fun k=>by rw [gC]) (Ev.dT (by omega) (Ev.opt (eM hlt) (Ev.dT e Ev.pure))),?_⟩
    exact ⟨fun _=>List.mem_cons.2 (.inl e),fun _=>by omega⟩
   ·refine ⟨r,Ev.step (fun k=>by rw [gC]) (Ev.dT (by omega) (Ev.opt (eM hlt) (Ev.dF e ?_))),?_⟩
    ·rw [dE (by omega)]; exact h1
    ·rw [h2,List.mem_cons]; exact ⟨.inr,fun h=>h.resolve_left e⟩
  ·refine ⟨-1,Ev.step (fun k=>by rw [gC]) (Ev.dF (by omega) Ev.pure),?_⟩
   rw [List.drop_of_length_le (by omega)]; simp
theorem aXL (l:List (List UInt8)) (x:List UInt8) (hl:l.length≤1099511627776):Ev (fun K=>slices_Contains K l x) (decide (x∈l)):=by
 obtain ⟨r,h1,h2⟩:=aTH l x hl l.length 0 (by omega) (by omega)
 refine Ev.congr (f:=fun K=>(gC K l x 0).bind fun v1=>some (decide (0≤v1))) (Ev.bind h1 (Ev.pure' ?_)) (fun K=>rfl)
 rw [List.drop_zero] at h2
 exact decide_eq_decide.2 h2
theorem aFo (s:List UInt8):Ev (fun K=>rF K s) (decide (s∈aNI)) :=
 Ev.congr (f:=fun K=>(slices_Contains K aNI s).bind fun v2=>some v2) (Ev.bind (aXL aNI s (by have:=bB3; omega)) Ev.pure) fun K=>by rw [rF,bHf,Option.bind_some]
def fH (s:List UInt8):Bool:=nmS s && !decide (s∈aNI)
theorem fE (s:List UInt8):Ev (fun K=>eL K s) (fH s):=by
 refine Ev.congr (f:=fun K=>_) ?_ (fun K=>by rw [eL])
 unfold fH
 refine Ev.bind (aOx s) (Ev.is (fun h=>?_) (fun h=>Ev.pure' ?_))
 ·rw [h,Bool.true_and]; exact Ev.bind (aFo s) Ev.pure
 ·rw [h]; rfl
end Go.Proofs.YtjhfgiieicloeaaGreatDoor

/- Plain facts of bytes, part 8: what dots part; long names. -/
namespace Go.Proofs.YtjhfgiieicloeaaGreatDoor
open Go Go.Am Go.Sx

def pcs:List UInt8→List (List UInt8)
 | []=>[[]]
 | b :: t=>if b=46 then [] :: pcs t else (b :: (pcs t).headD []) :: (pcs t).tail
theorem bGS:∀ l,pcs l≠[]
 | []=>by simp [pcs]
 | b :: t=>by unfold pcs; split <;> simp
theorem bDs (l:List UInt8):pcs l=(pcs l).headD [] :: (pcs l).tail:=by
 have:=bGS l
 cases h:pcs l with
 | nil=>exact absurd h this
 | cons x xs=>rfl

theorem aNr:∀ l:List UInt8,(Lib.indexByte l 46=-1∧l.count 46=0∧pcs l=[l]) ∨
  (∃ m:Nat,Lib.indexByte l 46=(m:Int)∧m<l.length∧l.count 46=(l.drop (m+1)).count 46+1∧pcs l=l.take m :: pcs (l.drop (m+1)))
 | []=>.inl ⟨rfl,rfl,rfl⟩
 | b :: t=>by
  unfold Lib.indexByte
  by_cases hb:b=46
  ·subst hb
   refine .inr ⟨0,by simp,by simp,by simp,?_⟩
   simp [pcs]
  ·have hb':(b == (46:UInt8))=false:=by simpa using hb
   rcases aNr t with ⟨h1,h2,h3⟩ | ⟨m,h1,h2,h3,h4⟩
   ·refine .inl ⟨?_,?_,?_⟩
    ·simp [hb',h1]
    ·rw [List.count_cons,h2,hb']; rfl
    ·unfold pcs; rw [if_neg hb,h3]; rfl
   ·refine .inr ⟨m+1,?_,by simpa using h2,?_,?_⟩
    ·rw [h1,hb']
     simp only [Bool.false_eq_true,if_false]
     rw [if_neg (by simp)]
     omega
    ·rw [List.count_cons,hb',List.drop_succ_cons]; simpa using h3
    ·conv=>lhs; unfold pcs
     rw [if_neg hb,h4]; simp [List.take_succ_cons]

theorem take_set {α:Type} {a:List α} {i:Nat} (x:α) (h:i<a.length):(a.set i x).take (i+1)=a.take i++[x]:=by
 rw [aAM (by rw [List.length_set]; exact h),List.take_set_of_le (Nat.le_refl _),List.getElem_set_self]
theorem bF2 (s:List UInt8):Ev (fun K=>strings_Index K s [46]) (Lib.indexByte s 46):=⟨0,fun _ _=>rfl⟩
theorem aUe (n:Nat) (hn:n≤1099511627776):∀ (m i:Nat) (s:List UInt8) (a:List (List UInt8)),n - i≤m→i+s.count 46=n→a.length=n+1→s.length≤1099511627776 →
  Ev (fun K=>gY K s [46] 0 (n:Int) a (i:Int)) (a.take i++pcs s):=by
 intro m
 induction m with
 | zero =>
  intro i s a hm hi ha hs
  have hc:s.count 46=0:=by omega
  have hp:pcs s=[s]:=by
   rcases aNr s with ⟨_,_,h⟩ | ⟨_,_,_,h,_⟩
   ·exact h
   ·omega
  refine Ev.step (fun k=>by rw [gY]) (Ev.dF (by omega) (Ev.iteT (by omega) (Ev.opt (eM (j:=i) (by omega)) ?_)))
  rw [dE (by omega)]
  refine Ev.opt (vH (a:=0) (by omega) (by rw [List.length_set]; omega)) (Ev.pure' ?_)
  rw [List.drop_zero,Int.toNat_natCast,take_set _ (by omega),hp]
 | succ m ih =>
  intro i s a hm hi ha hs
  refine Ev.step (fun k=>by rw [gY]) (Ev.d (fun h=>?_) (fun h=>?_))
  ·refine Ev.bind (bF2 s) ?_
   rcases aNr s with ⟨_,h2,_⟩ | ⟨j,h1,h2,h3,h4⟩
   ·omega
   rw [h1]
   refine Ev.dF (by omega) ?_
   rw [Int.add_zero,fP (x:=(j:Int)) (by omega) (by omega)]
   refine Ev.opt (vH (a:=0) (by omega) (by omega)) (Ev.iteT (by omega) (Ev.opt (eM (j:=i) (by omega)) ?_))
   rw [List.drop_zero,Int.toNat_natCast,dE (by omega)]
   have e:IntKind.i64.wrap ((j:Int)+(([46]:List UInt8).length:Nat))=((j+1:Nat):Int):=by rw [fP (by simp; omega) (by simp; omega)]; simp
   rw [e]
   refine Ev.opt (aGb (a:=j+1) (by omega)) ?_
   have:=ih (i+1) (s.drop (j+1)) (a.set i (s.take j)) (by omega) (by omega) (by rw [List.length_set]; exact ha) (by rw [List.length_drop]; omega)
   rw [take_set _ (by omega),List.append_assoc] at this
   rw [h4]
   exact this
  ·have hc:s.count 46=0:=by omega
   have hp:pcs s=[s]:=by
    rcases aNr s with ⟨_,_,h⟩ | ⟨_,_,_,h,_⟩
    ·exact h
    ·omega
   refine Ev.iteT (by omega) (Ev.opt (eM (j:=i) (by omega)) ?_)
   rw [dE (by omega)]
   refine Ev.opt (vH (a:=0) (by omega) (by rw [List.length_set]; omega)) (Ev.pure' ?_)
   rw [List.drop_zero,Int.toNat_natCast,take_set _ (by omega),hp]

theorem bDh (s:List UInt8) (hs:s.length≤100000000000):Ev (fun K=>strings_Split K s [46]) (pcs s):=by
 refine Ev.congr (f:=fun K=>_) ?_ (fun K=>by rw [strings_Split])
 refine Ev.bind (a:=pcs s) ?_ Ev.pure
 refine Ev.congr (f:=fun K=>_) ?_ (fun K=>by rw [strings_genSplit])
 refine Ev.dF (by decide) (Ev.dF (by decide) (Ev.dT (by decide) (Ev.bind (a:=((s.count 46:Nat):Int)) ⟨0,fun _ _=>rfl⟩ ?_)))
 have hc:s.count 46≤s.length:=List.count_le_length
 rw [dE (by omega)]
 refine Ev.step (fun k=>by rw [lJ]) ?_
 rw [dE (n:=s.length) (by omega)]
 have e:(if ((s.length+1:Nat):Int)<((s.count 46+1:Nat):Int) then ((s.length+1:Nat):Int) else ((s.count 46+1:Nat):Int))=((s.count 46+1:Nat):Int):=if_neg (by omega)
 rw [e]
 refine Ev.opt (bGk (by omega)) ?_
 rw [fP (by omega) (by omega),show ((s.count 46+1:Nat):Int) - 1=((s.count 46:Nat):Int) by omega]
 have:=aUe (s.count 46) (by omega) (s.count 46) 0 s (List.replicate (s.count 46+1) []) (by omega) (by omega) (by simp) (by omega)
 simpa using this

end Go.Proofs.YtjhfgiieicloeaaGreatDoor

/- Plain facts of bytes, part 9: long names. -/
namespace Go.Proofs.YtjhfgiieicloeaaGreatDoor
open Go Go.Am Go.Sx

def lgS (s:List UInt8):Bool:=decide (s.length≤128) && (pcs s).all fH
theorem aZX:∀ s:List UInt8,(pcs s).length≤s.length+1
 | []=>by simp [pcs]
 | b :: t=>by
  have:=aZX t
  unfold pcs
  split
  ·simp; omega
  ·simp only [List.length_cons,List.length_tail]; omega
theorem aXU (l:List (List UInt8)) (hl:l.length≤1099511627776):∀ (m i:Nat),l.length - i≤m→i≤l.length→∃ r,Ev (fun K=>cX K l (i:Int)) r∧(0≤r↔(l.drop i).all fH=false):=by
 intro m
 induction m with
 | zero =>
  intro i hm hi
  refine ⟨-1,Ev.step (fun k=>by rw [cX]) (Ev.dF (by omega) Ev.pure),?_⟩
  rw [List.drop_of_length_le (by omega)]; simp
 | succ m ih =>
  intro i hm hi
  by_cases hlt:i<l.length
  ·obtain ⟨r,h1,h2⟩:=ih (i+1) (by omega) (by omega)
   have ck:Ev (fun K=>aBw K l[i]) (!fH l[i]):=Ev.congr (f:=fun K=>(eL K l[i]).bind fun v1=>some (!v1)) (Ev.bind (fE _) Ev.pure) fun K=>by rw [aBw]
   rw [kM hlt,List.all_cons]
   cases hc:fH l[i] with
   | false =>
    refine ⟨i,Ev.step (fun k=>by rw [cX]) (Ev.dT (by omega) (Ev.opt (eM hlt) (Ev.bind ck (Ev.isT (c:=!fH l[i]) (by rw [hc]; rfl) Ev.pure)))),?_⟩
    simp
   | true =>
    refine ⟨r,Ev.step (fun k=>by rw [cX]) (Ev.dT (by omega) (Ev.opt (eM hlt) (Ev.bind ck (Ev.isF (c:=!fH l[i]) (by rw [hc]; rfl) ?_)))),?_⟩
    ·rw [dE (by omega)]; exact h1
    ·rw [h2,Bool.true_and]
  ·refine ⟨-1,Ev.step (fun k=>by rw [cX]) (Ev.dF (by omega) Ev.pure),?_⟩
   rw [List.drop_of_length_le (by omega)]; simp
theorem aBf (s:List UInt8):Ev (fun K=>lZ K s) (lgS s):=by
 refine Ev.congr (f:=fun K=>_) ?_ (fun K=>by rw [lZ])
 unfold lgS
 refine Ev.d (fun h=>?_) (fun h=>Ev.pure' (by rw [decide_eq_false (show ¬ s.length≤128 by omega)]; rfl))
 have hp:=aZX s
 refine Ev.bind (bDh s (by omega)) ?_
 obtain ⟨r,h1,h2⟩:=aXU (pcs s) (by omega) (pcs s).length 0 (by omega) (by omega)
 refine Ev.bind (a:=decide (0≤r)) (Ev.congr (f:=fun K=>(cX K (pcs s) 0).bind fun v1=>some (decide (0≤v1))) (Ev.bind h1 Ev.pure) fun K=>by rw [qA,tQ]) (Ev.pure' ?_)
 rw [List.drop_zero] at h2
 rw [decide_eq_true (show s.length≤128 by omega),Bool.true_and]
 cases hc:(pcs s).all fH with
 | true=>rw [decide_eq_false (by rw [h2,hc]; simp)]; rfl
 | false=>rw [decide_eq_true (h2.2 hc)]; rfl
end Go.Proofs.YtjhfgiieicloeaaGreatDoor

/- Answers of conditions; a node's name. -/
namespace Go.Proofs.YtjhfgiieicloeaaGreatDoor
open Go Go.Am Go.Sx

section
variable {α β:Type}
theorem Ev.cast {f:Nat→Option α} {a b:α} (h:Ev f a) (e:a=b):Ev f b:=e ▸ h
theorem Ev.ret {f:Nat→Option α} {a:α} (h:Ev f a):Ev (fun K=>(f K).bind fun v=>some v) a:=Ev.bind h Ev.pure
theorem Ev.andB {f g:Nat→Option Bool} {a b:Bool} (h:Ev f a) (k:a=true→Ev g b):Ev (fun K=>(f K).bind fun v=>iteS v (g K) (some false)) (a && b):=by
 refine Ev.bind h ?_
 cases a
 ·exact Ev.isF rfl Ev.pure
 ·exact Ev.isT rfl (k rfl)
theorem Ev.andN {f g:Nat→Option Bool} {a b:Bool} (h:Ev f a) (k:a=true→Ev g b):Ev (fun K=>(f K).bind fun v=>iteS (!v) (some false) (g K)) (a && b):=by
 refine Ev.bind h ?_
 cases a
 ·exact Ev.isT rfl Ev.pure
 ·exact Ev.isF rfl (k rfl)
theorem Ev.orB {f g:Nat→Option Bool} {a b:Bool} (h:Ev f a) (k:Ev g b):Ev (fun K=>(f K).bind fun v=>iteS v (some true) (g K)) (a || b):=by
 refine Ev.bind h ?_
 cases a
 ·exact Ev.isF rfl k
 ·exact Ev.isT rfl Ev.pure
theorem Ev.andD {p:Prop} [Decidable p] {g:Nat→Option Bool} {b:Bool} (k:p→Ev g b):Ev (fun K=>iteS (decide p) (g K) (some false)) (decide p && b):=by
 by_cases h:p
 ·rw [decide_eq_true h]; exact Ev.isT rfl (k h)
 ·rw [decide_eq_false h]; exact Ev.isF rfl Ev.pure
theorem Ev.andDN {p:Prop} [Decidable p] {g:Nat→Option Bool} {b:Bool} (k:p→Ev g b):Ev (fun K=>iteS (!decide p) (some false) (g K)) (decide p && b):=by
 by_cases h:p
 ·rw [decide_eq_true h]; exact Ev.isF rfl (k h)
 ·rw [decide_eq_false h]; exact Ev.isT rfl Ev.pure
end

def nameOf:Tr→List UInt8
 | .nil=>[]
 | .node _ _ nm _ _=>nm
theorem aQk:∀ (l:List (List UInt8×Bool)) (a s:List UInt8) (v:Bool),jN (aFL l a v) s=if s=a then some v else jN l s
 | [],a,s,v=>by
  by_cases h:s=a
  ·subst h; simp [aFL,jN]
  ·have h':¬ a=s:=fun e=>h e.symm
   simp [aFL,jN,h,h']
 | p :: l,a,s,v=>by
  have ih:=aQk l a s v
  by_cases h:p.1=a
  ·by_cases h2:s=a
   ·subst h2; simp [aFL,jN,h]
   ·have h':¬ a=s:=fun e=>h2 e.symm
    have h3:¬ p.1=s:=fun e=>h2 (e.symm.trans h)
    simp [aFL,jN,h,h2,h']
  ·by_cases h2:p.1=s
   ·have h3:¬ s=a:=fun e=>h (h2.trans e)
    simp [aFL,jN,h2,h3]
   ·simp only [aFL,jN,h,h2,decide_false,Bool.false_eq_true,if_false]
    exact ih
theorem aRX {sn:List (List UInt8×Bool)} {a s:List UInt8}:(jN (aFL sn a true) s).getD false=if s=a then true else (jN sn s).getD false:=by
 rw [aQk]
 split <;> rfl
end Go.Proofs.YtjhfgiieicloeaaGreatDoor

/- Functions that come to something of which a proposition is true. -/
namespace Go.Proofs.YtjhfgiieicloeaaGreatDoor
open Go Go.Am Go.Sx
section
variable {α β:Type} {Q:α→Prop}
def Hs (f:Nat→Option α) (Q:α→Prop):Prop:=∃ v,Ev f v∧Q v
theorem Hs.pure {v:α} (h:Q v):Hs (fun _=>some v) Q:=⟨v,Ev.pure,h⟩
theorem Hs.bind {f:Nat→Option β} {g:β→Nat→Option α} {R:β→Prop} (h:Hs f R) (k:∀ a,R a→Hs (g a) Q):Hs (fun K=>(f K).bind fun x=>g x K) Q:=by
 obtain ⟨a,h1,h2⟩:=h
 obtain ⟨b,k1,k2⟩:=k a h2
 exact ⟨b,Ev.bind h1 k1,k2⟩
theorem Hs.evb {f:Nat→Option β} {g:β→Nat→Option α} {a:β} (h:Ev f a) (k:Hs (g a) Q):Hs (fun K=>(f K).bind fun x=>g x K) Q:=by
 obtain ⟨b,k1,k2⟩:=k
 exact ⟨b,Ev.bind h k1,k2⟩
theorem Hs.opt {x:Option β} {g:β→Nat→Option α} {a:β} (h:x=some a) (k:Hs (g a) Q):Hs (fun K=>x.bind fun y=>g y K) Q:=by
 subst h; exact k
theorem Hs.step {F G:Nat→Option α} (h:∀ k,F (k+1)=G k) (k:Hs G Q):Hs F Q:=by
 obtain ⟨b,k1,k2⟩:=k
 exact ⟨b,Ev.step h k1,k2⟩
theorem Hs.congr {f g:Nat→Option α} (h:Hs f Q) (e:∀ k,g k=f k):Hs g Q:=by
 obtain ⟨b,k1,k2⟩:=h
 exact ⟨b,Ev.congr k1 e,k2⟩
theorem Hs.is {c:Bool} {f g:Nat→Option α} (h1:c=true→Hs f Q) (h2:c=false→Hs g Q):Hs (fun K=>iteS c (f K) (g K)) Q:=by
 cases c
 ·exact h2 rfl
 ·exact h1 rfl
theorem Hs.d {p:Prop} [Decidable p] {f g:Nat→Option α} (h1:p→Hs f Q) (h2:¬ p→Hs g Q):Hs (fun K=>iteS (decide p) (f K) (g K)) Q :=
 Hs.is (fun h=>h1 (of_decide_eq_true h)) (fun h=>h2 (of_decide_eq_false h))
theorem Hs.n {p:Prop} [Decidable p] {f g:Nat→Option α} (h1:¬ p→Hs f Q) (h2:p→Hs g Q):Hs (fun K=>iteS (!decide p) (f K) (g K)) Q:=by
 by_cases hp:p
 ·obtain ⟨b,k1,k2⟩:=h2 hp
  exact ⟨b,Ev.nF hp k1,k2⟩
 ·obtain ⟨b,k1,k2⟩:=h1 hp
  exact ⟨b,Ev.nT hp k1,k2⟩
end

end Go.Proofs.YtjhfgiieicloeaaGreatDoor

