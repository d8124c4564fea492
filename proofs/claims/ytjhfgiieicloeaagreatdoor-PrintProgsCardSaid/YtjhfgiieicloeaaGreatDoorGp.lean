/- Joined texts: P0, C0, U1, U2, U3, U4, U5, U6, U7, U8, U9, S0, H0. -/
import Derived.Test.YtjhfgiieicloeaaGreatDoorGc
import Derived.Test.YtjhfgiieicloeaaGreatDoorGf
import Derived.Lib.ValidU
import Derived.Lib.DecodeNEq
/- Plain facts: functions with fuel that come to an answer; numbers that do not wrap; lists looked up at numbers. -/
namespace Go.Am
open Go

def Ev {α:Type} (f:Nat→Option α) (v:α):Prop:=∃ N,∀ K,N≤K→f K=some v

section
variable {α β:Type}
theorem Ev.pure {v:α}:Ev (fun _=>some v) v:=⟨0,fun _ _=>rfl⟩
theorem Ev.pure' {u v:α} (h:u=v):Ev (fun _=>some u) v:=h ▸ Ev.pure
theorem Ev.bind {f:Nat→Option α} {g:α→Nat→Option β} {a:α} {b:β} (h:Ev f a) (k:Ev (g a) b):Ev (fun K=>(f K).bind fun x=>g x K) b:=by
  obtain ⟨N,hN⟩:=h
  obtain ⟨M,hM⟩:=k
  refine ⟨max N M,fun K hK=>?_⟩
  have h1:=hN K (by omega)
  have h2:=hM K (by omega)
  simp only [h1,Option.bind_some,h2]
theorem Ev.opt {x:Option α} {g:α→Nat→Option β} {a:α} {b:β} (h:x=some a) (k:Ev (g a) b):Ev (fun K=>x.bind fun y=>g y K) b:=by
  subst h; exact k
theorem Ev.step {F G:Nat→Option α} {v:α} (h:∀ k,F (k+1)=G k) (k:Ev G v):Ev F v:=by
  obtain ⟨N,hN⟩:=k
  refine ⟨N+1,fun K hK=>?_⟩
  obtain ⟨K',rfl⟩:∃ K',K=K' + 1:=⟨K - 1,by omega⟩
  rw [h]; exact hN K' (by omega)
theorem Ev.iteT {c:Prop} [Decidable c] {f g:Nat→Option α} {v:α} (hc:c) (h:Ev f v):Ev (fun K=>if c then f K else g K) v:=by
  simp only [if_pos hc]; exact h
theorem Ev.iteF {c:Prop} [Decidable c] {f g:Nat→Option α} {v:α} (hc:¬ c) (h:Ev g v):Ev (fun K=>if c then f K else g K) v:=by
  simp only [if_neg hc]; exact h
theorem Ev.ite {c:Prop} [Decidable c] {f g:Nat→Option α} {v:α} (h1:c→Ev f v) (h2:¬ c→Ev g v):Ev (fun K=>if c then f K else g K) v:=by
  by_cases hc:c
  · exact Ev.iteT hc (h1 hc)
  · exact Ev.iteF hc (h2 hc)
theorem Ev.isT {c:Bool} {f g:Nat→Option α} {v:α} (hc:c=true) (h:Ev f v):Ev (fun K=>Sx.iteS c (f K) (g K)) v:=by
  subst hc; exact h
theorem Ev.isF {c:Bool} {f g:Nat→Option α} {v:α} (hc:c=false) (h:Ev g v):Ev (fun K=>Sx.iteS c (f K) (g K)) v:=by
  subst hc; exact h
theorem Ev.is {c:Bool} {f g:Nat→Option α} {v:α} (h1:c=true→Ev f v) (h2:c=false→Ev g v):Ev (fun K=>Sx.iteS c (f K) (g K)) v:=by
  cases c
  · exact Ev.isF rfl (h2 rfl)
  · exact Ev.isT rfl (h1 rfl)
theorem Ev.dT {p:Prop} [Decidable p] {f g:Nat→Option α} {v:α} (hc:p) (h:Ev f v):Ev (fun K=>Sx.iteS (decide p) (f K) (g K)) v:=Ev.isT (decide_eq_true hc) h
theorem Ev.dF {p:Prop} [Decidable p] {f g:Nat→Option α} {v:α} (hc:¬ p) (h:Ev g v):Ev (fun K=>Sx.iteS (decide p) (f K) (g K)) v:=Ev.isF (decide_eq_false hc) h
theorem Ev.d {p:Prop} [Decidable p] {f g:Nat→Option α} {v:α} (h1:p→Ev f v) (h2:¬ p→Ev g v):Ev (fun K=>Sx.iteS (decide p) (f K) (g K)) v:=by
  by_cases hc:p
  · exact Ev.dT hc (h1 hc)
  · exact Ev.dF hc (h2 hc)
theorem Ev.nT {p:Prop} [Decidable p] {f g:Nat→Option α} {v:α} (hc:¬ p) (h:Ev f v):Ev (fun K=>Sx.iteS (!decide p) (f K) (g K)) v:=Ev.isT (by simp [hc]) h
theorem Ev.nF {p:Prop} [Decidable p] {f g:Nat→Option α} {v:α} (hc:p) (h:Ev g v):Ev (fun K=>Sx.iteS (!decide p) (f K) (g K)) v:=Ev.isF (by simp [hc]) h
theorem Ev.n {p:Prop} [Decidable p] {f g:Nat→Option α} {v:α} (h1:¬ p→Ev f v) (h2:p→Ev g v):Ev (fun K=>Sx.iteS (!decide p) (f K) (g K)) v:=by
  by_cases hc:p
  · exact Ev.nF hc (h2 hc)
  · exact Ev.nT hc (h1 hc)
theorem Ev.get {f:Nat→Option α} {v:α} (h:Ev f v):∃ K,f K=some v:=⟨_,h.choose_spec _ (Nat.le_refl _)⟩
theorem Ev.congr {f g:Nat→Option α} {v:α} (h:Ev f v) (e:∀ k,g k=f k):Ev g v:=by
  obtain ⟨N,hN⟩:=h
  exact ⟨N,fun K hK=>(e K).trans (hN K hK)⟩

theorem wrap_id {x:Int} (h1:-9223372036854775808≤x) (h2:x≤9223372036854775807):IntKind.i64.wrap x=x:=by
  show (if (true && decide (x % 18446744073709551616 ≥ 9223372036854775808))=true then x % 18446744073709551616 - 18446744073709551616 else x % 18446744073709551616)=x
  simp only [Bool.true_and,decide_eq_true_eq]
  split <;> omega

theorem wrap32 {x:Int} (h1:0≤x) (h2:x≤2147483647):IntKind.i32.wrap x=x:=by
  show (if (true && decide (x % 4294967296 ≥ 2147483648))=true then x % 4294967296 - 4294967296 else x % 4294967296)=x
  simp only [Bool.true_and,decide_eq_true_eq]
  split <;> omega
theorem wrapU8 {x:Int} (h1:0≤x) (h2:x≤255):IntKind.u8.wrap x=x:=by
  show (if (false && decide (x % 256 ≥ 128))=true then x % 256 - 256 else x % 256)=x
  simp only [Bool.false_and,Bool.false_eq_true,if_false]
  omega
theorem u8_lt (b:UInt8):b.toNat<256:=b.toNat_lt
theorem wrapB (b:UInt8):IntKind.i64.wrap ((b.toNat:Nat):Int)=((b.toNat:Nat):Int):=wrap_id (by omega) (by have:=u8_lt b; omega)
theorem wrap_nat {n:Nat} (h:n<9223372036854775807):IntKind.i64.wrap ((n:Int)+1)=((n+1:Nat):Int):=by
  rw [wrap_id (by omega) (by omega)]; omega

theorem getI_nat {l:List α} {j:Nat}:getI l (j:Int)=l[j]?:=by
  unfold getI; rw [if_pos (by omega)]; rfl
theorem getI_lt {l:List α} {j:Nat} (h:j<l.length):getI l (j:Int)=some l[j]:=by
  rw [getI_nat,List.getElem?_eq_getElem h]
theorem appL_ok {by':Nat} {l m:List α} (h:(l.length+m.length) * by'≤140737488355328):appL by' l m=some (l++m):=by
  unfold appL; rw [if_pos h]
theorem mkL_ok {by':Nat} {z:α} {n:Nat} (h:n * by'≤140737488355328):mkL by' z (n:Int)=some (List.replicate n z):=by
  unfold mkL; rw [if_pos ⟨by omega,by simpa using h⟩]; rfl
theorem subL_ok {l:List α} {a b:Nat} (h1:a≤b) (h2:b≤l.length):subL l (a:Int) (b:Int)=some ((l.take b).drop a):=by
  unfold subL; rw [if_pos ⟨by omega,by omega,by omega⟩]; rfl
theorem catS_ok {l r:List UInt8} (h:l.length+r.length≤9223372036854775807):catS l r=some (l++r):=by
  unfold catS; rw [if_pos h]

def Tr.w:Tr→Nat
  | .nil=>1
  | .node _ _ _ _ ks=>1+go ks
where go:List Tr→Nat
  | []=>0
  | k :: ks=>k.w+go ks

abbrev wL (l:List Tr):Nat:=Tr.w.go l
theorem wL_nil:wL []=0:=by simp [Tr.w.go]
theorem wL_cons (k:Tr) (ks:List Tr):wL (k :: ks)=k.w+wL ks:=by simp [Tr.w.go]
theorem w_node {k n nm mk ks}:(Tr.node k n nm mk ks).w=1+wL ks:=by simp [Tr.w]
theorem w_pos (t:Tr):1≤t.w:=by cases t <;> simp [Tr.w]
theorem wL_mem {k:Tr}:∀ {l:List Tr},k∈l→k.w≤wL l
  | x :: l,h=>by
    rw [wL_cons]
    rcases List.mem_cons.1 h with rfl | h
    · omega
    · have:=wL_mem h; omega
theorem wL_len:∀ (l:List Tr),l.length≤wL l
  | []=>by simp
  | k :: l=>by rw [wL_cons]; have:=wL_len l; have:=w_pos k; simp; omega
theorem wL_append:∀ (l m:List Tr),wL (l++m)=wL l+wL m
  | [],m=>by simp [wL_nil]
  | k :: l,m=>by rw [List.cons_append,wL_cons,wL_cons,wL_append l m]; omega

theorem Tr.ind {p:Tr→Prop} (h0:p .nil) (h1:∀ k n nm mk ks,(∀ x∈ks,p x)→p (.node k n nm mk ks)):∀ t,p t:=by
  have:∀ n (t:Tr),t.w≤n→p t:=by
    intro n
    induction n with
    | zero=>intro t h; have:=w_pos t; omega
    | succ n ih =>
      intro t h
      cases t with
      | nil=>exact h0
      | node k m nm mk ks =>
        refine h1 _ _ _ _ _ fun x hx=>ih x ?_
        rw [w_node] at h
        have:=wL_mem hx
        omega
  exact fun t=>this t.w t (Nat.le_refl _)

theorem drop_get {l:List α} {i:Nat} (h:i<l.length):l.drop i=l[i] :: l.drop (i+1):=List.drop_eq_getElem_cons h
theorem take_get' {l:List α} {i:Nat} (h:i<l.length):l.take (i+1)=l.take i++[l[i]]:=by
  rw [List.take_add_one,List.getElem?_eq_getElem h]; rfl
end
end Go.Am

/- The cells of a tree, as typed values. -/
namespace Go.Proofs.YtjhfgiieicloeaaGreatDoor
open Go Go.Am Go.Sx
abbrev Cell:=Int×Int×List UInt8×List UInt8×List Int
theorem min_int {n m:Nat}:(if (m:Int)<(n:Int) then (m:Int) else (n:Int))=((min n m:Nat):Int):=by split <;> omega
theorem take_min {α:Type} {l:List α} {m:Nat}:(l.take (min l.length m)).drop 0=l.take m:=by
  rw [List.drop_zero]
  rcases Nat.le_total l.length m with h | h
  · rw [Nat.min_eq_left h,List.take_length,List.take_of_length_le h]
  · rw [Nat.min_eq_right h]
theorem sub_min {α:Type} {l:List α} {m:Nat}:subL l 0 (if (m:Int)<(((l.length:Nat):Int)) then (m:Int) else (((l.length:Nat):Int)))=some (l.take m):=by
  rw [min_int,show (0:Int)=((0:Nat):Int) from rfl,subL_ok (by omega) (by omega),take_min]
end Go.Proofs.YtjhfgiieicloeaaGreatDoor

/- Plain facts of bytes, part 1: words of eight bytes that are all below 128. -/
namespace Go.Proofs.YtjhfgiieicloeaaGreatDoor
open Go Go.Am Go.Sx

theorem ofInt_nat {w m:Nat} (h:m<2 ^ w):(BitVec.ofInt w (m:Int)).toNat=m:=by
  rw [BitVec.ofInt_natCast,BitVec.toNat_ofNat,Nat.mod_eq_of_lt h]
theorem wrap64 {n:Nat} (h:n<18446744073709551616):IntKind.u64.wrap (n:Int)=(n:Int):=by
  show (if (false && decide ((n:Int) % 18446744073709551616 ≥ 9223372036854775808))=true then (n:Int) % 18446744073709551616 - 18446744073709551616 else (n:Int) % 18446744073709551616)=n
  simp only [Bool.false_and,Bool.false_eq_true,if_false]
  omega
theorem ofInt64 {m:Nat} (h:m<2 ^ 64):(BitVec.ofInt IntKind.u64.bits (m:Int)).toNat=m:=ofInt_nat (w:=64) h
theorem or64 {m n:Nat} (hm:m<2 ^ 64) (hn:n<2 ^ 64):bitI .or .u64 (m:Int) (n:Int)=some ((m ||| n:Nat):Int):=by
  unfold bitI
  rw [if_neg (by simp)]
  simp only [BitVec.toNat_or,ofInt64 hm,ofInt64 hn]
  rw [wrap64 (by have:=Nat.or_lt_two_pow hm hn; omega)]
theorem and64 {m n:Nat} (hm:m<2 ^ 64) (hn:n<2 ^ 64):bitI .and .u64 (m:Int) (n:Int)=some ((m &&& n:Nat):Int):=by
  unfold bitI
  rw [if_neg (by simp)]
  simp only [BitVec.toNat_and,ofInt64 hm,ofInt64 hn]
  rw [wrap64 (by have:=Nat.and_lt_two_pow m hn; omega)]
theorem shl64 {m n:Nat} (hm:m<256) (hn:n≤56):shI .shl .u64 (m:Int) (n:Int)=some ((m <<< n:Nat):Int):=by
  unfold shI
  rw [if_neg (by simp)]
  simp only [show IntKind.u64.bits=64 from rfl,Int.toNat_natCast,Nat.min_eq_left (show n≤64 by omega),Nat.shiftLeft_eq]
  have h1:m * 2 ^ n<18446744073709551616:=calc
    m * 2 ^ n<256 * 2 ^ n:=Nat.mul_lt_mul_of_pos_right hm (Nat.two_pow_pos n)
    _≤256 * 2 ^ 56:=Nat.mul_le_mul_left _ (Nat.pow_le_pow_right (by decide) hn)
    _=18446744073709551616:=by decide
  rw [← wrap64 h1]
  simp
theorem wrapU64B (b:UInt8):IntKind.u64.wrap ((b.toNat:Nat):Int)=((b.toNat:Nat):Int):=wrap64 (by have:=u8_lt b; omega)

def word8 (l:List UInt8):Nat:=((((((((l[0]!.toNat) ||| (l[1]!.toNat <<< 8)) ||| (l[2]!.toNat <<< 16)) ||| (l[3]!.toNat <<< 24)) ||| (l[4]!.toNat <<< 32)) ||| (l[5]!.toNat <<< 40)) ||| (l[6]!.toNat <<< 48)) ||| (l[7]!.toNat <<< 56))
theorem shl_lt {m n:Nat} (hm:m<256) (hn:n≤56):m <<< n<2 ^ 64:=by
  rw [Nat.shiftLeft_eq]
  calc m * 2 ^ n<256 * 2 ^ n:=Nat.mul_lt_mul_of_pos_right hm (Nat.two_pow_pos n)
    _≤256 * 2 ^ 56:=Nat.mul_le_mul_left _ (Nat.pow_le_pow_right (by decide) hn)
    _=2 ^ 64:=by decide
theorem word8_lt (l:List UInt8):word8 l<2 ^ 64:=by
  unfold word8
  have b:∀ i:Nat,l[i]!.toNat<256:=fun i=>u8_lt _
  repeat first | exact Nat.lt_trans (b 0) (by decide) | refine Nat.or_lt_two_pow ?_ (shl_lt (b _) (by decide))
theorem getI_bang {l:List UInt8} {i:Nat} (h:i<l.length):getI l ((i:Nat):Int)=some l[i]!:=by
  rw [getI_lt h,getElem!_pos l i h]

theorem word_val (k:Nat) (l:List UInt8) (h:8≤l.length):utf8_word k l=some (word8 l:Int):=by
  have g:∀ i:Nat,i<8→getI l ((i:Nat):Int)=some l[i]!:=fun i hi=>getI_bang (by omega)
  have b:∀ i:Nat,l[i]!.toNat<256:=fun i=>u8_lt _
  have s:∀ i n:Nat,n≤56→shI .shl .u64 ((l[i]!.toNat:Nat):Int) (n:Int)=some ((l[i]!.toNat <<< n:Nat):Int):=fun i n hn=>shl64 (b i) hn
  have sl:∀ i n:Nat,n≤56→l[i]!.toNat <<< n<2 ^ 64:=fun i n hn=>shl_lt (b i) hn
  have b64:∀ i:Nat,l[i]!.toNat<2 ^ 64:=fun i=>Nat.lt_trans (b i) (by decide)
  have o:∀ m n:Nat,m<2 ^ 64→n<2 ^ 64→m ||| n<2 ^ 64:=fun m n=>Nat.or_lt_two_pow
  have g0:getI l 0=some l[0]!:=g 0 (by decide); have g1:getI l 1=some l[1]!:=g 1 (by decide); have g2:getI l 2=some l[2]!:=g 2 (by decide); have g3:getI l 3=some l[3]!:=g 3 (by decide)
  have g4:getI l 4=some l[4]!:=g 4 (by decide); have g5:getI l 5=some l[5]!:=g 5 (by decide); have g6:getI l 6=some l[6]!:=g 6 (by decide); have g7:getI l 7=some l[7]!:=g 7 (by decide)
  have s1:shI .shl .u64 ((l[1]!.toNat:Nat):Int) 8=some ((l[1]!.toNat <<< 8:Nat):Int):=s 1 8 (by decide); have s2:shI .shl .u64 ((l[2]!.toNat:Nat):Int) 16=some ((l[2]!.toNat <<< 16:Nat):Int):=s 2 16 (by decide); have s3:shI .shl .u64 ((l[3]!.toNat:Nat):Int) 24=some ((l[3]!.toNat <<< 24:Nat):Int):=s 3 24 (by decide); have s4:shI .shl .u64 ((l[4]!.toNat:Nat):Int) 32=some ((l[4]!.toNat <<< 32:Nat):Int):=s 4 32 (by decide)
  have s5:shI .shl .u64 ((l[5]!.toNat:Nat):Int) 40=some ((l[5]!.toNat <<< 40:Nat):Int):=s 5 40 (by decide); have s6:shI .shl .u64 ((l[6]!.toNat:Nat):Int) 48=some ((l[6]!.toNat <<< 48:Nat):Int):=s 6 48 (by decide); have s7:shI .shl .u64 ((l[7]!.toNat:Nat):Int) 56=some ((l[7]!.toNat <<< 56:Nat):Int):=s 7 56 (by decide)
  have t1:=o _ _ (b64 0) (sl 1 8 (by decide))
  have t2:=o _ _ t1 (sl 2 16 (by decide))
  have t3:=o _ _ t2 (sl 3 24 (by decide))
  have t4:=o _ _ t3 (sl 4 32 (by decide))
  have t5:=o _ _ t4 (sl 5 40 (by decide))
  have t6:=o _ _ t5 (sl 6 48 (by decide))
  unfold utf8_word word8
  simp only [g0,g1,g2,g3,g4,g5,g6,g7,Option.bind_some,wrapU64B,s1,s2,s3,s4,s5,s6,s7]
  rw [or64 (b64 0) (sl 1 8 (by decide)),Option.bind_some,or64 t1 (sl 2 16 (by decide)),Option.bind_some,or64 t2 (sl 3 24 (by decide)),Option.bind_some,or64 t3 (sl 4 32 (by decide)),Option.bind_some,
    or64 t4 (sl 5 40 (by decide)),Option.bind_some,or64 t5 (sl 6 48 (by decide)),Option.bind_some,or64 t6 (sl 7 56 (by decide)),Option.bind_some]

theorem bit7 {b:UInt8} (h:b.toNat.testBit 7=false):b.toNat<128:=by
  rw [Nat.testBit_eq_decide_div_mod_eq,decide_eq_false_iff_not] at h
  have:=u8_lt b
  omega
theorem and_bit {w n:Nat} (h:w &&& 9259542123273814144=0) (hn:(9259542123273814144:Nat).testBit n=true):w.testBit n=false:=by
  have:=congrArg (fun x=>Nat.testBit x n) h
  simpa [Nat.testBit_and,hn] using this
theorem mask_ascii {l:List UInt8} (h:word8 l &&& 9259542123273814144=0):∀ i,i<8→l[i]!.toNat<128:=by
  have key:∀ i,i<8→(word8 l).testBit (8 * i+7)=false:=fun i hi=>and_bit h (by
    match i,hi with
    | 0,_ | 1,_ | 2,_ | 3,_ | 4,_ | 5,_ | 6,_ | 7,_=>decide)
  intro i hi
  have k:=key i hi
  refine bit7 ?_
  unfold word8 at k
  simp only [Nat.testBit_or,Nat.testBit_shiftLeft,Bool.or_eq_false_iff] at k
  obtain ⟨⟨⟨⟨⟨⟨⟨k0,k1⟩,k2⟩,k3⟩,k4⟩,k5⟩,k6⟩,k7⟩:=k
  match i,hi with
  | 0,_=>simpa using k0
  | 1,_=>simpa using k1
  | 2,_=>simpa using k2
  | 3,_=>simpa using k3
  | 4,_=>simpa using k4
  | 5,_=>simpa using k5
  | 6,_=>simpa using k6
  | 7,_=>simpa using k7
end Go.Proofs.YtjhfgiieicloeaaGreatDoor

/- Plain facts of bytes, part 2: the rune at a place; texts that are valid. -/
namespace Go.Proofs.YtjhfgiieicloeaaGreatDoor
open Go Go.Am Go.Sx

theorem get_bang (l:List UInt8) (i:Nat):(⟨l.toArray⟩:ByteArray).get! i=l[i]!:=by
  simp [ByteArray.get!]
theorem size_mk (l:List UInt8):(⟨l.toArray⟩:ByteArray).size=l.length:=by simp [ByteArray.size]
def dc (l:List UInt8):Nat×Nat:=Lib.decodeN l.length l[0]!.toNat l[1]!.toNat l[2]!.toNat l[3]!.toNat
theorem drop_bang (l:List UInt8) (i j:Nat):(l.drop i)[j]! = l[i+j]!:=by
  simp [List.getElem!_eq_getElem?_getD]
theorem runeAt_dc (l:List UInt8) (i:Nat):runeAt l i=dc (l.drop i):=by
  unfold runeAt dc
  rw [Lib.decode_at]
  simp only [get_bang,size_mk,drop_bang,List.length_drop,Nat.add_zero]
theorem decodeL_dc (l:List UInt8):Lib.decodeL l=dc l:=by
  have:=runeAt_dc l 0
  rw [List.drop_zero] at this
  exact this
theorem dc_width (l:List UInt8):1≤(dc l).2:=by rw [← decodeL_dc]; exact Lib.decodeL_width l
theorem dc_ascii {l:List UInt8} (h:l[0]!.toNat<128):dc l=(l[0]!.toNat,1):=by
  unfold dc Lib.decodeN; rw [if_pos h]
theorem dc_le {l:List UInt8} (h:l≠[]):(dc l).2≤l.length:=by
  have h1:1≤l.length:=by cases l with | nil=>exact absurd rfl h | cons=>simp
  unfold dc Lib.decodeN
  repeat' split
  all_goals simp only
  all_goals omega

def V (l:List UInt8):Bool:=Lib.validD l
theorem validGo_fuel:∀ (n m:Nat) (l:List UInt8),l.length≤n→l.length≤m→Lib.validGoD n l=Lib.validGoD m l:=by
  intro n
  induction n with
  | zero =>
    intro m l h _
    obtain rfl:=List.length_eq_zero_iff.1 (Nat.le_zero.1 h)
    cases m <;> simp [Lib.validGoD]
  | succ n ih =>
    intro m l h h2
    cases m with
    | zero =>
      obtain rfl:=List.length_eq_zero_iff.1 (Nat.le_zero.1 h2)
      simp [Lib.validGoD]
    | succ m =>
      unfold Lib.validGoD
      have:=Lib.decodeL_width l
      split
      · rfl
      · rename_i hl
        have h1:1≤l.length:=by cases l with | nil=>exact absurd rfl hl | cons=>simp
        split
        · rfl
        · exact ih m _ (by rw [List.length_drop]; omega) (by rw [List.length_drop]; omega)
theorem V_nil:V []=true:=rfl
theorem V_step {l:List UInt8} (h:l≠[]):V l=if dc l=(65533,1) then false else V (l.drop (dc l).2):=by
  unfold V Lib.validD
  have h1:1≤l.length:=by cases l with | nil=>exact absurd rfl h | cons=>simp
  have hw:=dc_width l
  obtain ⟨n,hn⟩:∃ n,l.length=n+1:=⟨l.length - 1,by omega⟩
  rw [hn]
  conv=>lhs; unfold Lib.validGoD
  rw [if_neg h,decodeL_dc]
  have e:((dc l).1=65533∧(dc l).2=1)↔dc l=(65533,1):=by rw [Prod.ext_iff]
  simp only [e]
  split
  · rfl
  · exact validGo_fuel _ _ _ (by rw [List.length_drop]; omega) (Nat.le_refl _)
theorem V_ascii {l:List UInt8} (h:l≠[]) (h1:l[0]!.toNat<128):V l=V (l.drop 1):=by
  rw [V_step h,dc_ascii h1,if_neg]
  intro e
  have:=congrArg Prod.fst e
  simp only at this
  omega
theorem V_asciis:∀ (n:Nat) {l:List UInt8},n≤l.length→(∀ i,i<n→l[i]!.toNat<128)→V l=V (l.drop n)
  | 0,l,_,_=>by rw [List.drop_zero]
  | n+1,l,h,hi=>by
    have hl:l≠[]:=by intro e; subst e; simp at h
    rw [V_ascii hl (hi 0 (by omega)),V_asciis n (l:=l.drop 1) (by rw [List.length_drop]; omega) (fun i h2=>by rw [drop_bang,Nat.add_comm 1 i]; exact hi (i+1) (by omega)),List.drop_drop,Nat.add_comm 1 n]
end Go.Proofs.YtjhfgiieicloeaaGreatDoor

/- Plain facts of bytes, part 3: utf8.ValidString. -/
namespace Go.Proofs.YtjhfgiieicloeaaGreatDoor
open Go Go.Am Go.Sx

theorem subD {l:List UInt8} {a:Nat} (h:a≤l.length):subL l (a:Int) ((l.length:Nat):Int)=some (l.drop a):=by
  rw [subL_ok h (Nat.le_refl _),List.take_length]
theorem tab0_first:∀ b,b<256→getI tab0 ((b:Nat):Int)=some ((Lib.firstT b:Nat):Int):=by decide +kernel
theorem first_parts:∀ b,b<256→128≤b→bitI .and .u8 ((Lib.firstT b:Nat):Int) 7=some ((Lib.firstT b % 8:Nat):Int)∧shI .shr .u8 ((Lib.firstT b:Nat):Int) 4=some ((Lib.firstT b / 16:Nat):Int) ∧
    getI tab1 ((Lib.firstT b / 16:Nat):Int)=some (((Lib.accLo (Lib.firstT b / 16):Nat):Int),((Lib.accHi (Lib.firstT b / 16):Nat):Int))∧(Lib.firstT b<240∨Lib.firstT b=241):=by decide +kernel
theorem and_mask {w:Nat} (h:w<2 ^ 64):bitI .and .u64 (w:Int) 9259542123273814144=some ((w &&& 9259542123273814144:Nat):Int):=and64 h (by decide)
theorem or_and0 {a b m:Nat} (h:(a ||| b) &&& m=0):a &&& m=0∧b &&& m=0:=by
  rw [Nat.and_or_distrib_right] at h
  exact Nat.or_eq_zero_iff.1 h
theorem ev_word {l:List UInt8} (h:8≤l.length):Ev (fun K=>utf8_word K l) ((word8 l:Nat):Int):=⟨0,fun K _=>word_val K l h⟩

theorem V_skip8 {l:List UInt8} (h:8≤l.length) (hm:word8 l &&& 9259542123273814144=0):V (l.drop 8)=V l:=(V_asciis 8 h (mask_ascii hm)).symm

theorem zero_iff {n:Nat}:((n:Nat):Int)=0↔n=0:=by omega
theorem nil_of {l:List UInt8} (h:¬ 0<((l.length:Nat):Int)):l=[]:=List.length_eq_zero_iff.1 (by omega)

theorem ev_tail {l:List UInt8} (ih0:∀ t:List UInt8,t.length≤l.length→Ev (fun K=>utf8_ValidString_l0 K t) (V t)) (ih1:∀ t:List UInt8,t.length≤l.length→Ev (fun K=>utf8_ValidString_l1 K t) (V t)) :
    Ev (fun k1=>(iteS (decide (8<((l.length:Nat):Int))) ((utf8_word k1 l).bind fun v4=>((bitI .and .u64 v4 9259542123273814144).bind fun v5=>(iteS (decide (v5=0)) ((subL l 8 ((l.length:Nat):Int)).bind fun v6=>(iteS (decide (16<((v6.length:Nat):Int))) ((subL v6 8 ((v6.length:Nat):Int)).bind fun v7=>((utf8_word k1 v6).bind fun v8=>((utf8_word k1 v7).bind fun v9=>((bitI .or .u64 v8 v9).bind fun v10=>((bitI .and .u64 v10 9259542123273814144).bind fun v11=>(iteS (decide (v11=0)) ((subL v6 16 ((v6.length:Nat):Int)).bind fun v12=>(utf8_ValidString_l1 k1 v12)) (utf8_ValidString_l0 k1 v6))))))) (utf8_ValidString_l0 k1 v6))) (utf8_ValidString_l0 k1 l)))) (utf8_ValidString_l0 k1 l))) (V l):=by
  refine Ev.d (fun h8=>?_) (fun _=>ih0 l (Nat.le_refl _))
  have h8':8≤l.length:=by omega
  refine Ev.bind (ev_word h8') (Ev.opt (and_mask (word8_lt l)) ?_)
  refine Ev.d (fun hz=>?_) (fun _=>ih0 l (Nat.le_refl _))
  have e8:=V_skip8 h8' (zero_iff.1 hz)
  refine Ev.opt (subD (a:=8) h8') ?_
  rw [← e8]
  refine Ev.d (fun h16=>?_) (fun _=>ih0 _ (by rw [List.length_drop]; omega))
  have hl:(l.drop 8).length=l.length - 8:=List.length_drop
  refine Ev.opt (subD (a:=8) (by omega)) (Ev.bind (ev_word (by omega)) (Ev.bind (ev_word (by rw [List.length_drop]; omega)) ?_))
  refine Ev.opt (or64 (word8_lt _) (word8_lt _)) (Ev.opt (and_mask (Nat.or_lt_two_pow (word8_lt _) (word8_lt _))) ?_)
  refine Ev.d (fun hz2=>?_) (fun _=>ih0 _ (by omega))
  obtain ⟨a1,a2⟩:=or_and0 (zero_iff.1 hz2)
  have e16:=V_skip8 (l:=l.drop 8) (by omega) a1
  have e24:=V_skip8 (l:=(l.drop 8).drop 8) (by rw [List.length_drop]; omega) a2
  refine Ev.opt (subD (a:=16) (by omega)) ?_
  have e:((l.drop 8).drop 8).drop 8=(l.drop 8).drop 16:=by simp only [List.drop_drop]
  rw [← e16,← e24,e]
  exact ih1 _ (by rw [List.length_drop]; omega)

theorem V_bad {l:List UInt8} (h:l≠[]) (hd:dc l=(65533,1)):V l=false:=by rw [V_step h,if_pos hd]
theorem V_good {l:List UInt8} {r n:Nat} (h:l≠[]) (hd:dc l=(r,n)) (hn:n≠1):V l=V (l.drop n):=by
  rw [V_step h,hd,if_neg (by intro e; exact hn (congrArg Prod.snd e))]

theorem ev_valid0 (l:List UInt8) (ih0:∀ t:List UInt8,t.length<l.length→Ev (fun K=>utf8_ValidString_l0 K t) (V t)) (ih1:∀ t:List UInt8,t.length<l.length→Ev (fun K=>utf8_ValidString_l1 K t) (V t)) :
    Ev (fun K=>utf8_ValidString_l0 K l) (V l):=by
  refine Ev.step (fun k=>by rw [utf8_ValidString_l0]) ?_
  refine Ev.d (fun h0=>?_) (fun h0=>by rw [nil_of h0]; exact Ev.pure)
  have hp:0<l.length:=by omega
  have hne:l≠[]:=by intro e; subst e; simp at hp
  refine Ev.opt (getI_bang (i:=0) hp) ?_
  refine Ev.d (fun ha=>?_) (fun ha=>?_)
  · have e1:=V_ascii hne (show l[0]!.toNat<128 by omega)
    refine Ev.opt (subD (a:=1) hp) ?_
    rw [e1]
    have hl:(l.drop 1).length=l.length - 1:=List.length_drop
    exact ev_tail (l:=l.drop 1) (fun t ht=>ih0 t (by omega)) (fun t ht=>ih1 t (by omega))
  · have hb:l[0]!.toNat<256:=u8_lt _
    obtain ⟨p1,p2,p3,p4⟩:=first_parts _ hb (by omega)
    refine Ev.opt (tab0_first _ hb) (Ev.opt p1 (Ev.opt p2 (Ev.opt p3 ?_)))
    have hsz:IntKind.i64.wrap ((Lib.firstT l[0]!.toNat % 8:Nat):Int)=((Lib.firstT l[0]!.toNat % 8:Nat):Int):=wrap_id (by omega) (by omega)
    rw [hsz]
    have hD:Lib.firstT l[0]!.toNat<240→dc l=Lib.slowN l.length l[0]!.toNat l[1]!.toNat l[2]!.toNat l[3]!.toNat (Lib.firstT l[0]!.toNat % 8) (Lib.accLo (Lib.firstT l[0]!.toNat / 16)) (Lib.accHi (Lib.firstT l[0]!.toNat / 16)) :=
      fun h=>(Lib.slow_eq _ _ _ _ _ hp (u8_lt _) (u8_lt _) (u8_lt _) h).symm
    generalize hlo:Lib.accLo (Lib.firstT l[0]!.toNat / 16)=lo at *
    generalize hhi:Lib.accHi (Lib.firstT l[0]!.toNat / 16)=hi at *
    generalize hs:Lib.firstT l[0]!.toNat % 8=sz at *
    have low:∀ {z:Nat},sz=z→z≠1→Lib.firstT l[0]!.toNat<240:=fun h1 h2=>p4.resolve_right fun e=>by rw [e] at hs; omega
    refine Ev.d (fun h2=>?_) (fun h2=>Ev.d (fun h3=>?_) (fun h3=>Ev.d (fun h4=>?_) (fun h4=>?_)))
    · have e:=hD (low (z:=2) (by omega) (by decide))
      rw [show sz=2 by omega] at e
      refine Ev.d (fun hn=>Ev.pure' (V_bad hne (by rw [e]; unfold Lib.slowN; rw [if_pos (by omega)])).symm) (fun hn=>Ev.opt (getI_bang (i:=1) (by omega)) ?_)
      refine Ev.d (fun g=>Ev.pure' (V_bad hne (by rw [e]; unfold Lib.slowN; rw [if_neg (by omega),if_pos (by omega)])).symm) (fun g=>Ev.opt (getI_bang (i:=1) (by omega)) ?_)
      refine Ev.d (fun g2=>Ev.pure' (V_bad hne (by rw [e]; unfold Lib.slowN; rw [if_neg (by omega),if_pos (by omega)])).symm) (fun g2=>Ev.opt (subD (a:=2) (by omega)) ?_)
      have hd:dc l=(l[0]!.toNat % 32 * 64+l[1]!.toNat % 64,2):=by rw [e]; unfold Lib.slowN; rw [if_neg (by omega),if_neg (by omega),if_pos (by omega)]
      rw [V_good hne hd (by decide)]
      exact ih0 _ (by rw [List.length_drop]; omega)
    · have e:=hD (low (z:=3) (by omega) (by decide))
      rw [show sz=3 by omega] at e
      refine Ev.d (fun hn=>Ev.pure' (V_bad hne (by rw [e]; unfold Lib.slowN; rw [if_pos (by omega)])).symm) (fun hn=>Ev.opt (getI_bang (i:=1) (by omega)) ?_)
      refine Ev.d (fun g=>Ev.pure' (V_bad hne (by rw [e]; unfold Lib.slowN; rw [if_neg (by omega),if_pos (by omega)])).symm) (fun g=>Ev.opt (getI_bang (i:=1) (by omega)) ?_)
      refine Ev.d (fun g2=>Ev.pure' (V_bad hne (by rw [e]; unfold Lib.slowN; rw [if_neg (by omega),if_pos (by omega)])).symm) (fun g2=>Ev.opt (getI_bang (i:=2) (by omega)) ?_)
      refine Ev.d (fun g3=>Ev.pure' (V_bad hne (by rw [e]; unfold Lib.slowN; rw [if_neg (by omega),if_neg (by omega),if_neg (by omega),if_pos (by omega)])).symm) (fun g3=>Ev.opt (getI_bang (i:=2) (by omega)) ?_)
      refine Ev.d (fun g4=>Ev.pure' (V_bad hne (by rw [e]; unfold Lib.slowN; rw [if_neg (by omega),if_neg (by omega),if_neg (by omega),if_pos (by omega)])).symm) (fun g4=>Ev.opt (subD (a:=3) (by omega)) ?_)
      have hd:dc l=(l[0]!.toNat % 16 * 4096+l[1]!.toNat % 64 * 64+l[2]!.toNat % 64,3):=by rw [e]; unfold Lib.slowN; rw [if_neg (by omega),if_neg (by omega),if_neg (by omega),if_neg (by omega),if_pos (by omega)]
      rw [V_good hne hd (by decide)]
      exact ih0 _ (by rw [List.length_drop]; omega)
    · have e:=hD (low (z:=4) (by omega) (by decide))
      rw [show sz=4 by omega] at e
      refine Ev.d (fun hn=>Ev.pure' (V_bad hne (by rw [e]; unfold Lib.slowN; rw [if_pos (by omega)])).symm) (fun hn=>Ev.opt (getI_bang (i:=1) (by omega)) ?_)
      refine Ev.d (fun g=>Ev.pure' (V_bad hne (by rw [e]; unfold Lib.slowN; rw [if_neg (by omega),if_pos (by omega)])).symm) (fun g=>Ev.opt (getI_bang (i:=1) (by omega)) ?_)
      refine Ev.d (fun g2=>Ev.pure' (V_bad hne (by rw [e]; unfold Lib.slowN; rw [if_neg (by omega),if_pos (by omega)])).symm) (fun g2=>Ev.opt (getI_bang (i:=2) (by omega)) ?_)
      refine Ev.d (fun g3=>Ev.pure' (V_bad hne (by rw [e]; unfold Lib.slowN; rw [if_neg (by omega),if_neg (by omega),if_neg (by omega),if_pos (by omega)])).symm) (fun g3=>Ev.opt (getI_bang (i:=2) (by omega)) ?_)
      refine Ev.d (fun g4=>Ev.pure' (V_bad hne (by rw [e]; unfold Lib.slowN; rw [if_neg (by omega),if_neg (by omega),if_neg (by omega),if_pos (by omega)])).symm) (fun g4=>Ev.opt (getI_bang (i:=3) (by omega)) ?_)
      refine Ev.d (fun g5=>Ev.pure' (V_bad hne (by rw [e]; unfold Lib.slowN; rw [if_neg (by omega),if_neg (by omega),if_neg (by omega),if_neg (by omega),if_neg (by omega),if_pos (by omega)])).symm) (fun g5=>Ev.opt (getI_bang (i:=3) (by omega)) ?_)
      refine Ev.d (fun g6=>Ev.pure' (V_bad hne (by rw [e]; unfold Lib.slowN; rw [if_neg (by omega),if_neg (by omega),if_neg (by omega),if_neg (by omega),if_neg (by omega),if_pos (by omega)])).symm) (fun g6=>Ev.opt (subD (a:=4) (by omega)) ?_)
      have hd:dc l=(l[0]!.toNat % 8 * 262144+l[1]!.toNat % 64 * 4096+l[2]!.toNat % 64 * 64+l[3]!.toNat % 64,4):=by rw [e]; unfold Lib.slowN; rw [if_neg (by omega),if_neg (by omega),if_neg (by omega),if_neg (by omega),if_neg (by omega),if_neg (by omega)]
      rw [V_good hne hd (by decide)]
      exact ih0 _ (by rw [List.length_drop]; omega)
    · refine Ev.pure' (V_bad hne ?_).symm
      have h241:Lib.firstT l[0]!.toNat=241:=by
        refine p4.resolve_left fun hlt=>?_
        rcases Lib.firstT_low hlt with h | h | h | h | h | h | h
        · have:=Lib.firstT_C2 h; omega
        · have:=Lib.firstT_E0 h; omega
        · have:=Lib.firstT_E1 h; omega
        · have:=Lib.firstT_ED h; omega
        · have:=Lib.firstT_F0 h; omega
        · have:=Lib.firstT_F1 h; omega
        · have:=Lib.firstT_F4 h; omega
      exact Lib.bad_eq _ _ _ _ _ hb h241

theorem ev_valid1 (l:List UInt8) (h0:Ev (fun K=>utf8_ValidString_l0 K l) (V l)) (ih1:∀ t:List UInt8,t.length<l.length→Ev (fun K=>utf8_ValidString_l1 K t) (V t)) :
    Ev (fun K=>utf8_ValidString_l1 K l) (V l):=by
  refine Ev.step (fun k=>by rw [utf8_ValidString_l1]) ?_
  refine Ev.d (fun h32=>?_) (fun _=>h0)
  have d8:(l.drop 8).length=l.length - 8:=List.length_drop
  have d16:(l.drop 16).length=l.length - 16:=List.length_drop
  have d24:(l.drop 24).length=l.length - 24:=List.length_drop
  refine Ev.opt (subD (a:=8) (by omega)) (Ev.opt (subD (a:=16) (by omega)) (Ev.opt (subD (a:=24) (by omega)) ?_))
  refine Ev.bind (ev_word (by omega)) (Ev.bind (ev_word (by omega)) (Ev.opt (or64 (word8_lt _) (word8_lt _)) (Ev.bind (ev_word (by omega)) (Ev.bind (ev_word (by omega)) (Ev.opt (or64 (word8_lt _) (word8_lt _)) ?_)))))
  refine Ev.opt (or64 (Nat.or_lt_two_pow (word8_lt _) (word8_lt _)) (Nat.or_lt_two_pow (word8_lt _) (word8_lt _))) (Ev.opt (and_mask (Nat.or_lt_two_pow (Nat.or_lt_two_pow (word8_lt _) (word8_lt _)) (Nat.or_lt_two_pow (word8_lt _) (word8_lt _)))) ?_)
  refine Ev.d (fun hz=>?_) (fun _=>h0)
  obtain ⟨a,b⟩:=or_and0 (zero_iff.1 hz)
  obtain ⟨a1,a2⟩:=or_and0 a
  obtain ⟨a3,a4⟩:=or_and0 b
  refine Ev.opt (subD (a:=32) (by omega)) ?_
  have e1:=V_skip8 (l:=l) (by omega) a1
  have e2:=V_skip8 (l:=l.drop 8) (by omega) a2
  have e3:=V_skip8 (l:=l.drop 16) (by omega) a3
  have e4:=V_skip8 (l:=l.drop 24) (by omega) a4
  rw [List.drop_drop] at e2 e3 e4
  rw [← e1,← e2,← e3,← e4]
  exact ih1 _ (by rw [List.length_drop]; omega)

theorem ev_valid_both:∀ (n:Nat) (l:List UInt8),l.length=n→Ev (fun K=>utf8_ValidString_l0 K l) (V l)∧Ev (fun K=>utf8_ValidString_l1 K l) (V l):=by
  intro n
  induction n using Nat.strongRecOn with
  | ind n ih =>
    intro l hl
    have a:=ev_valid0 l (fun t ht=>(ih _ (by omega) t rfl).1) (fun t ht=>(ih _ (by omega) t rfl).2)
    exact ⟨a,ev_valid1 l a (fun t ht=>(ih _ (by omega) t rfl).2)⟩
theorem ev_valid (l:List UInt8):Ev (fun K=>utf8_ValidString K l) (V l):=(ev_valid_both _ l rfl).1.congr fun _=>rfl
end Go.Proofs.YtjhfgiieicloeaaGreatDoor

/- Plain facts of bytes, part 4: the reference's decoder. -/
namespace Go.Proofs.YtjhfgiieicloeaaGreatDoor
open Go Go.Am Go.Sx

def nx (l:List UInt8):Int×Int:=if dc l=(65533,1) then (0,0) else (((dc l).1:Nat),((dc l).2:Nat))

def lastN (r n least:Nat):Int×Int:=if r<least∨1114111<r∨(55296≤r∧r≤57343) then (0,0) else ((r:Int),(n:Int))
theorem ev_next_end (s:List UInt8) (i n r least:Nat) (hr:r≤2000000000):Ev (fun K=>ref01_next_l0 K s (i:Int) (n:Int) (r:Int) (least:Int) (n:Int)) (lastN r n least):=by
  refine Ev.step (fun k=>by rw [ref01_next_l0]) ?_
  unfold lastN
  refine Ev.dF (by omega) ?_
  refine Ev.d (fun h=>Ev.pure' (by rw [if_pos (by omega)])) (fun h=>?_)
  refine Ev.d (fun h1=>Ev.pure' (by rw [if_pos (by omega)])) (fun h1=>?_)
  have e:IntKind.i32.wrap (r:Int)=(r:Int):=wrap32 (by omega) (by omega)
  rw [e]
  refine Ev.d (fun h2=>?_) (fun h2=>Ev.pure' (by rw [if_neg (by omega)]))
  exact Ev.d (fun h3=>Ev.pure' (by rw [if_pos (by omega)])) (fun h3=>Ev.pure' (by rw [if_neg (by omega)]))
theorem ev_next_step (s:List UInt8) (i n k r least:Nat) (hk:k<n) (hn:n≤4) (hi:i+n≤s.length) (hl:s.length≤1099511627776) (hr:r≤20000000) {v:Int×Int}
    (h:128≤s[i+k]!.toNat→s[i+k]!.toNat≤191→Ev (fun K=>ref01_next_l0 K s (i:Int) (n:Int) ((64 * r+s[i+k]!.toNat - 128:Nat):Int) (least:Int) ((k+1:Nat):Int)) v) :
    Ev (fun K=>ref01_next_l0 K s (i:Int) (n:Int) (r:Int) (least:Int) (k:Int)) (if 128≤s[i+k]!.toNat∧s[i+k]!.toNat≤191 then v else (0,0)):=by
  refine Ev.step (fun k=>by rw [ref01_next_l0]) ?_
  refine Ev.dT (by omega) ?_
  have e1:IntKind.i64.wrap ((i:Int)+(k:Int))=((i+k:Nat):Int):=by rw [wrap_id (by omega) (by omega)]; omega
  rw [e1]
  refine Ev.opt (getI_bang (by omega)) ?_
  rw [wrapB]
  have hb:=u8_lt s[i+k]!
  refine Ev.d (fun h1=>Ev.pure' (by rw [if_neg (by omega)])) (fun h1=>?_)
  refine Ev.d (fun h2=>Ev.pure' (by rw [if_neg (by omega)])) (fun h2=>?_)
  rw [if_pos (by omega)]
  have e2:IntKind.i64.wrap (IntKind.i64.wrap (IntKind.i64.wrap (64 * (r:Int))+((s[i+k]!.toNat:Nat):Int)) - 128)=((64 * r+s[i+k]!.toNat - 128:Nat):Int):=by
    rw [wrap_id (x:=64 * (r:Int)) (by omega) (by omega),wrap_id (x:=64 * (r:Int)+((s[i+k]!.toNat:Nat):Int)) (by omega) (by omega),wrap_id (by omega) (by omega)]
    omega
  rw [e2,wrap_nat (by omega)]
  exact h (by omega) (by omega)

theorem ev_c0_zero (s:List UInt8) (i r least:Int):Ev (fun K=>ref01_next_c0 K s i 0 r least) (0,0) :=
  Ev.step (fun k=>by rw [ref01_next_c0]) (Ev.dT rfl Ev.pure)
theorem ev_c0 (s:List UInt8) (i n r least:Nat) (hn:n≠0) (hi:i≤s.length) (hl:s.length≤1099511627776) {v:Int×Int} (h:i+n≤s.length→Ev (fun K=>ref01_next_l0 K s (i:Int) (n:Int) (r:Int) (least:Int) 1) v) :
    Ev (fun K=>ref01_next_c0 K s (i:Int) (n:Int) (r:Int) (least:Int)) (if i+n≤s.length then v else (0,0)):=by
  refine Ev.step (fun k=>by rw [ref01_next_c0]) (Ev.dF (by omega) ?_)
  rw [wrap_id (by omega) (by omega)]
  refine Ev.d (fun h1=>Ev.pure' (by rw [if_neg (by omega)])) (fun h1=>?_)
  rw [if_pos (by omega)]
  exact h (by omega)

def cont (b:UInt8):Prop:=128≤b.toNat∧b.toNat≤191
instance (b:UInt8):Decidable (cont b):=by unfold cont; infer_instance
theorem ev_two (s:List UInt8) (i r:Nat) (hi:i≤s.length) (hl:s.length≤1099511627776) (hr:r<64):Ev (fun K=>ref01_next_c0 K s (i:Int) 2 (r:Int) 128)
    (if i+2≤s.length then (if cont s[i+1]! then lastN (64 * r+s[i+1]!.toNat - 128) 2 128 else (0,0)) else (0,0)) :=
  ev_c0 s i 2 r 128 (by decide) hi hl fun h=>ev_next_step s i 2 1 r 128 (by decide) (by decide) h hl (by omega) fun h1 h2=>ev_next_end s i 2 _ 128 (by omega)
theorem ev_three (s:List UInt8) (i r:Nat) (hi:i≤s.length) (hl:s.length≤1099511627776) (hr:r<64):Ev (fun K=>ref01_next_c0 K s (i:Int) 3 (r:Int) 2048)
    (if i+3≤s.length then (if cont s[i+1]! then (if cont s[i+2]! then lastN (64 * (64 * r+s[i+1]!.toNat - 128)+s[i+2]!.toNat - 128) 3 2048 else (0,0)) else (0,0)) else (0,0)) :=
  ev_c0 s i 3 r 2048 (by decide) hi hl fun h=>ev_next_step s i 3 1 r 2048 (by decide) (by decide) h hl (by omega) fun h1 h2 =>
    ev_next_step s i 3 2 _ 2048 (by decide) (by decide) h hl (by omega) fun h3 h4=>ev_next_end s i 3 _ 2048 (by omega)
theorem ev_four (s:List UInt8) (i r:Nat) (hi:i≤s.length) (hl:s.length≤1099511627776) (hr:r<64):Ev (fun K=>ref01_next_c0 K s (i:Int) 4 (r:Int) 65536)
    (if i+4≤s.length then (if cont s[i+1]! then (if cont s[i+2]! then (if cont s[i+3]! then lastN (64 * (64 * (64 * r+s[i+1]!.toNat - 128)+s[i+2]!.toNat - 128)+s[i+3]!.toNat - 128) 4 65536 else (0,0)) else (0,0)) else (0,0)) else (0,0)) :=
  ev_c0 s i 4 r 65536 (by decide) hi hl fun h=>ev_next_step s i 4 1 r 65536 (by decide) (by decide) h hl (by omega) fun h1 h2 =>
    ev_next_step s i 4 2 _ 65536 (by decide) (by decide) h hl (by omega) fun h3 h4=>ev_next_step s i 4 3 _ 65536 (by decide) (by decide) h hl (by omega) fun h5 h6=>ev_next_end s i 4 _ 65536 (by omega)

def nxN (d:Nat×Nat):Int×Int:=if d=(65533,1) then (0,0) else ((d.1:Int),(d.2:Int))
theorem nxN_good {r n:Nat} (h:n≠1):nxN (r,n)=((r:Int),(n:Int)):=by unfold nxN; rw [if_neg (by intro e; exact h (congrArg Prod.snd e))]
set_option maxHeartbeats 4000000 in
theorem two_eq (n b0 b1 b2 b3:Nat) (hn:1≤n) (h1:b1<256) (h2:b2<256) (h3:b3<256) (hb:194≤b0∧b0<224) :
    (if 2≤n then (if 128≤b1∧b1≤191 then lastN (64 * (b0 - 192)+b1 - 128) 2 128 else (0,0)) else (0,0))=nxN (Lib.decodeN n b0 b1 b2 b3):=by
  rw [← Lib.slow_C2 n b0 b1 b2 b3 hn h1 h2 h3 hb]
  unfold Lib.slowN lastN
  by_cases c1:n<2
  · rw [if_pos c1,if_neg (by omega)]; rfl
  rw [if_neg c1,if_pos (by omega)]
  by_cases c2:b1<128∨191<b1
  · rw [if_pos c2,if_neg (by omega)]; rfl
  rw [if_neg c2,if_pos (by omega),if_neg (by omega),if_pos (by decide),nxN_good (by decide)]
  exact Prod.ext (by simp only; omega) rfl
set_option maxHeartbeats 4000000 in
theorem three_eq (n b0 b1 b2 b3:Nat) (hn:1≤n) (h1:b1<256) (h2:b2<256) (h3:b3<256) (hb:224≤b0∧b0<240) :
    (if 3≤n then (if 128≤b1∧b1≤191 then (if 128≤b2∧b2≤191 then lastN (64 * (64 * (b0 - 224)+b1 - 128)+b2 - 128) 3 2048 else (0,0)) else (0,0)) else (0,0))=nxN (Lib.decodeN n b0 b1 b2 b3):=by
  have key:∀ lo hi,Lib.slowN n b0 b1 b2 b3 3 lo hi=Lib.decodeN n b0 b1 b2 b3→128≤lo→hi≤191→(∀ r,128≤b1→b1≤191→128≤b2→b2≤191→r=64 * (64 * (b0 - 224)+b1 - 128)+b2 - 128→((b1<lo∨hi<b1)↔(r<2048∨1114111<r∨(55296≤r∧r≤57343)))) →
      (if 3≤n then (if 128≤b1∧b1≤191 then (if 128≤b2∧b2≤191 then lastN (64 * (64 * (b0 - 224)+b1 - 128)+b2 - 128) 3 2048 else (0,0)) else (0,0)) else (0,0))=nxN (Lib.decodeN n b0 b1 b2 b3):=by
    intro lo hi e hlo hhi hk
    rw [← e]
    unfold Lib.slowN
    by_cases c1:n<3
    · rw [if_pos c1,if_neg (by omega)]; rfl
    rw [if_neg c1,if_pos (by omega)]
    by_cases d1:128≤b1∧b1≤191
    · rw [if_pos d1]
      by_cases d2:128≤b2∧b2≤191
      · rw [if_pos d2]
        have hh:=hk _ d1.1 d1.2 d2.1 d2.2 rfl
        unfold lastN
        by_cases c2:b1<lo∨hi<b1
        · rw [if_pos c2,if_pos (hh.1 c2)]; rfl
        · rw [if_neg c2,if_neg (fun h=>c2 (hh.2 h)),if_neg (by decide),if_neg (by omega),if_pos (by decide),nxN_good (by decide)]
          exact Prod.ext (by simp only; omega) rfl
      · rw [if_neg d2]
        by_cases c2:b1<lo∨hi<b1
        · rw [if_pos c2]; rfl
        · rw [if_neg c2,if_neg (by decide),if_pos (by omega)]; rfl
    · rw [if_neg d1,if_pos (by omega)]; rfl
  by_cases a:b0=224
  · exact key 160 191 (Lib.slow_E0 n b0 b1 b2 b3 hn h1 h2 h3 a) (by decide) (by decide) (by intros; subst_vars; omega)
  by_cases a2:b0=237
  · exact key 128 159 (Lib.slow_ED n b0 b1 b2 b3 hn h1 h2 h3 a2) (by decide) (by decide) (by intros; subst_vars; omega)
  exact key 128 191 (Lib.slow_E1 n b0 b1 b2 b3 hn h1 h2 h3 (by omega)) (by decide) (by decide) (by intros; subst_vars; omega)
set_option maxHeartbeats 4000000 in
theorem four_eq (n b0 b1 b2 b3:Nat) (hn:1≤n) (h1:b1<256) (h2:b2<256) (h3:b3<256) (hb:240≤b0∧b0<245) :
    (if 4≤n then (if 128≤b1∧b1≤191 then (if 128≤b2∧b2≤191 then (if 128≤b3∧b3≤191 then lastN (64 * (64 * (64 * (b0 - 240)+b1 - 128)+b2 - 128)+b3 - 128) 4 65536 else (0,0)) else (0,0)) else (0,0)) else (0,0))=nxN (Lib.decodeN n b0 b1 b2 b3):=by
  have key:∀ lo hi,Lib.slowN n b0 b1 b2 b3 4 lo hi=Lib.decodeN n b0 b1 b2 b3→128≤lo→hi≤191→(∀ r,128≤b1→b1≤191→128≤b2→b2≤191→128≤b3→b3≤191→r=64 * (64 * (64 * (b0 - 240)+b1 - 128)+b2 - 128)+b3 - 128→((b1<lo∨hi<b1)↔(r<65536∨1114111<r∨(55296≤r∧r≤57343)))) →
      (if 4≤n then (if 128≤b1∧b1≤191 then (if 128≤b2∧b2≤191 then (if 128≤b3∧b3≤191 then lastN (64 * (64 * (64 * (b0 - 240)+b1 - 128)+b2 - 128)+b3 - 128) 4 65536 else (0,0)) else (0,0)) else (0,0)) else (0,0))=nxN (Lib.decodeN n b0 b1 b2 b3):=by
    intro lo hi e hlo hhi hk
    rw [← e]
    unfold Lib.slowN
    by_cases c1:n<4
    · rw [if_pos c1,if_neg (by omega)]; rfl
    rw [if_neg c1,if_pos (by omega)]
    by_cases d1:128≤b1∧b1≤191
    · rw [if_pos d1]
      by_cases d2:128≤b2∧b2≤191
      · rw [if_pos d2]
        by_cases d3:128≤b3∧b3≤191
        · rw [if_pos d3]
          have hh:=hk _ d1.1 d1.2 d2.1 d2.2 d3.1 d3.2 rfl
          unfold lastN
          by_cases c2:b1<lo∨hi<b1
          · rw [if_pos c2,if_pos (hh.1 c2)]; rfl
          · rw [if_neg c2,if_neg (fun h=>c2 (hh.2 h)),if_neg (by decide),if_neg (by omega),if_neg (by decide),if_neg (by omega),nxN_good (by decide)]
            exact Prod.ext (by simp only; omega) rfl
        · rw [if_neg d3]
          by_cases c2:b1<lo∨hi<b1
          · rw [if_pos c2]; rfl
          · rw [if_neg c2,if_neg (by decide),if_neg (by omega),if_neg (by decide),if_pos (by omega)]; rfl
      · rw [if_neg d2]
        by_cases c2:b1<lo∨hi<b1
        · rw [if_pos c2]; rfl
        · rw [if_neg c2,if_neg (by decide),if_pos (by omega)]; rfl
    · rw [if_neg d1,if_pos (by omega)]; rfl
  by_cases a:b0=240
  · exact key 144 191 (Lib.slow_F0 n b0 b1 b2 b3 hn h1 h2 h3 a) (by decide) (by decide) (by intros; subst_vars; omega)
  by_cases a2:b0=244
  · exact key 128 143 (Lib.slow_F4 n b0 b1 b2 b3 hn h1 h2 h3 a2) (by decide) (by decide) (by intros; subst_vars; omega)
  exact key 128 191 (Lib.slow_F1 n b0 b1 b2 b3 hn h1 h2 h3 (by omega)) (by decide) (by decide) (by intros; subst_vars; omega)

theorem nx_nxN (l:List UInt8):nx l=nxN (dc l):=rfl
theorem ev_next (s:List UInt8) (i:Nat) (hi:i<s.length) (hl:s.length≤1099511627776):Ev (fun K=>ref01_next K s (i:Int)) (nx (s.drop i)):=by
  have hd:(s.drop i).length=s.length - i:=List.length_drop
  have hn:1≤(s.drop i).length:=by omega
  have u1:=u8_lt s[i+1]!; have u2:=u8_lt s[i+2]!; have u3:=u8_lt s[i+3]!
  have two:=fun h=>two_eq (s.drop i).length s[i]!.toNat s[i+1]!.toNat s[i+2]!.toNat s[i+3]!.toNat hn u1 u2 u3 h
  have three:=fun h=>three_eq (s.drop i).length s[i]!.toNat s[i+1]!.toNat s[i+2]!.toNat s[i+3]!.toNat hn u1 u2 u3 h
  have four:=fun h=>four_eq (s.drop i).length s[i]!.toNat s[i+1]!.toNat s[i+2]!.toNat s[i+3]!.toNat hn u1 u2 u3 h
  have hdc:dc (s.drop i)=Lib.decodeN (s.drop i).length s[i]!.toNat s[i+1]!.toNat s[i+2]!.toNat s[i+3]!.toNat:=by
    unfold dc; simp only [drop_bang,Nat.add_zero]
  have hb:=u8_lt s[i]!
  have e2:=ev_two s i (s[i]!.toNat - 192) (by omega) hl
  have e3:=ev_three s i (s[i]!.toNat - 224) (by omega) hl
  have e4:=ev_four s i (s[i]!.toNat - 240) (by omega) hl
  have k2:i+2≤s.length↔2≤(s.drop i).length:=by omega
  have k3:i+3≤s.length↔3≤(s.drop i).length:=by omega
  have k4:i+4≤s.length↔4≤(s.drop i).length:=by omega
  simp only [cont,k2] at e2
  simp only [cont,k3] at e3
  simp only [cont,k4] at e4
  have bad:(128≤s[i]!.toNat∧s[i]!.toNat<194)∨244<s[i]!.toNat→nx (s.drop i)=(0,0):=by
    intro h
    rw [nx_nxN,hdc,Lib.bad_eq _ _ _ _ _ hb (by
      unfold Lib.firstT
      repeat' split
      all_goals omega)]
    rfl
  have z:(128≤s[i]!.toNat∧s[i]!.toNat<194)∨244<s[i]!.toNat→Ev (fun K=>ref01_next_c0 K s (i:Int) 0 0 0) (nx (s.drop i)):=fun h=>by rw [bad h]; exact ev_c0_zero _ _ _ _
  have L2:194≤s[i]!.toNat∧s[i]!.toNat<224→Ev (fun K=>ref01_next_c0 K s (i:Int) 2 (IntKind.i64.wrap (((s[i]!.toNat:Nat):Int) - 192)) 128) (nx (s.drop i)):=by
    intro h
    have:=e2 (by omega)
    rw [two h,← hdc] at this
    rw [wrap_id (by omega) (by omega),show ((s[i]!.toNat:Nat):Int) - 192=((s[i]!.toNat - 192:Nat):Int) by omega]
    exact this
  have L3:224≤s[i]!.toNat∧s[i]!.toNat<240→Ev (fun K=>ref01_next_c0 K s (i:Int) 3 (IntKind.i64.wrap (((s[i]!.toNat:Nat):Int) - 224)) 2048) (nx (s.drop i)):=by
    intro h
    have:=e3 (by omega)
    rw [three h,← hdc] at this
    rw [wrap_id (by omega) (by omega),show ((s[i]!.toNat:Nat):Int) - 224=((s[i]!.toNat - 224:Nat):Int) by omega]
    exact this
  have L4:240≤s[i]!.toNat∧s[i]!.toNat<245→Ev (fun K=>ref01_next_c0 K s (i:Int) 4 (IntKind.i64.wrap (((s[i]!.toNat:Nat):Int) - 240)) 65536) (nx (s.drop i)):=by
    intro h
    have:=e4 (by omega)
    rw [four h,← hdc] at this
    rw [wrap_id (by omega) (by omega),show ((s[i]!.toNat:Nat):Int) - 240=((s[i]!.toNat - 240:Nat):Int) by omega]
    exact this
  refine Ev.congr (f:=fun K=>(getI s (i:Int)).bind fun c1=>_) ?_ (fun K=>by rw [ref01_next])
  refine Ev.opt (getI_bang hi) ?_
  simp only [wrapB]
  refine Ev.d (fun h=>Ev.pure' ?_) (fun h=>?_)
  · rw [wrap32 (by omega) (by omega),nx_nxN,hdc]
    unfold Lib.decodeN
    rw [if_pos (by omega)]
    unfold nxN
    rw [if_neg (by intro e; have:=congrArg Prod.fst e; simp only at this; omega)]
    rfl
  · repeat' refine Ev.d (fun _=>?_) (fun _=>?_)
    all_goals first | exact L2 (by omega) | exact L3 (by omega) | exact L4 (by omega) | exact z (by omega) | (exfalso; omega)
end Go.Proofs.YtjhfgiieicloeaaGreatDoor

/- Plain facts of bytes, part 5: classes of runes. -/
namespace Go.Proofs.YtjhfgiieicloeaaGreatDoor
open Go Go.Am Go.Sx
def cls (r:Int):Int :=
  if (65≤r∧r≤90)∨(97≤r∧r≤122)∨r=95 then 1 else if 48≤r∧r≤57 then 2 else if r=32∨r=9∨r=10 then 3
  else if 128≤r∧r≤1114111∧r≠65533∧(r<55296∨57343<r) then 1 else 0
set_option maxHeartbeats 4000000 in
theorem ev_class2 (r:Int):Ev (fun K=>ref01_Class K r) (cls r):=by
  refine Ev.congr (f:=fun K=>_) ?_ (fun K=>by rw [ref01_Class])
  repeat' first | refine Ev.d (fun _=>?_) (fun _=>?_) | refine Ev.n (fun _=>?_) (fun _=>?_)
  all_goals first | (exfalso; omega) | (refine Ev.pure' ?_; unfold cls; (repeat' split) <;> omega)

theorem ev_vrune (r:Int):Ev (fun K=>utf8_ValidRune K r) (decide ((0≤r∧r<55296)∨(57343<r∧r≤1114111))):=by
  refine Ev.congr (f:=fun K=>_) ?_ (fun K=>by rw [utf8_ValidRune])
  repeat' refine Ev.d (fun _=>?_) (fun _=>?_)
  all_goals first | exact Ev.pure' (decide_eq_true (by omega)).symm | exact Ev.pure' (decide_eq_false (by omega)).symm
set_option maxHeartbeats 4000000 in
theorem ev_class1 (r:Int):Ev (fun K=>runes_Class K r) (cls r):=by
  refine Ev.congr (f:=fun K=>_) ?_ (fun K=>by rw [runes_Class])
  repeat' first | refine Ev.d (fun _=>?_) (fun _=>?_) | refine Ev.n (fun _=>?_) (fun _=>?_) | refine Ev.bind (ev_vrune r) ?_
  all_goals first | (exfalso; omega) | (refine Ev.pure' ?_; unfold cls; (repeat' split) <;> omega)
end Go.Proofs.YtjhfgiieicloeaaGreatDoor

/- Plain facts of bytes, part 6: a text's runes; names. -/
namespace Go.Proofs.YtjhfgiieicloeaaGreatDoor
open Go Go.Am Go.Sx

def rsGo:Nat→List UInt8→List Int
  | 0,_=>[]
  | n+1,l=>if l=[] then [] else (((dc l).1:Nat):Int) :: rsGo n (l.drop (dc l).2)
theorem rsGo_fuel:∀ (n m:Nat) (l:List UInt8),l.length≤n→l.length≤m→rsGo n l=rsGo m l:=by
  intro n
  induction n with
  | zero =>
    intro m l h _
    obtain rfl:=List.length_eq_zero_iff.1 (Nat.le_zero.1 h)
    cases m <;> simp [rsGo]
  | succ n ih =>
    intro m l h h2
    cases m with
    | zero =>
      obtain rfl:=List.length_eq_zero_iff.1 (Nat.le_zero.1 h2)
      simp [rsGo]
    | succ m =>
      unfold rsGo
      have:=dc_width l
      split
      · rfl
      · rename_i hl
        have h1:1≤l.length:=by cases l with | nil=>exact absurd rfl hl | cons=>simp
        rw [ih m _ (by rw [List.length_drop]; omega) (by rw [List.length_drop]; omega)]
def rs (l:List UInt8):List Int:=rsGo l.length l
theorem rs_nil:rs []=[]:=rfl
theorem rs_step {l:List UInt8} (h:l≠[]):rs l=(((dc l).1:Nat):Int) :: rs (l.drop (dc l).2):=by
  unfold rs
  have h1:1≤l.length:=by cases l with | nil=>exact absurd rfl h | cons=>simp
  have hw:=dc_width l
  obtain ⟨n,hn⟩:∃ n,l.length=n+1:=⟨l.length - 1,by omega⟩
  rw [hn]
  conv=>lhs; unfold rsGo
  rw [if_neg h,rsGo_fuel n _ _ (by rw [List.length_drop]; omega) (Nat.le_refl _)]
theorem drop_nil_iff {l:List UInt8} {i:Nat} (h:i<l.length):l.drop i≠[]:=by
  intro e
  have:=congrArg List.length e
  rw [List.length_drop,List.length_nil] at this
  omega

theorem ev_decode_loop (s:List UInt8) (hl:s.length≤1099511627776):∀ (m i:Nat) (acc:List Int),s.length - i≤m→i≤s.length→acc.length≤i →
    Ev (fun K=>ref01_Decode_l0 K s acc (i:Int)) (if V (s.drop i)=true then (acc++rs (s.drop i),(0:Int)) else ([],4)):=by
  intro m
  induction m with
  | zero =>
    intro i acc hm hi _
    have e:s.drop i=[]:=List.drop_of_length_le (by omega)
    refine Ev.step (fun k=>by rw [ref01_Decode_l0]) (Ev.dF (by omega) (Ev.pure' ?_))
    rw [e,V_nil,if_pos rfl,rs_nil,List.append_nil]
  | succ m ih =>
    intro i acc hm hi ha
    refine Ev.step (fun k=>by rw [ref01_Decode_l0]) (Ev.d (fun h=>?_) (fun h=>Ev.pure' ?_))
    · have hlt:i<s.length:=by omega
      have hne:=drop_nil_iff hlt
      have hw:=dc_width (s.drop i)
      have hle:=dc_le hne
      rw [List.length_drop] at hle
      refine Ev.bind (ev_next s i hlt hl) ?_
      rw [V_step hne]
      unfold nx
      by_cases hb:dc (s.drop i)=(65533,1)
      · rw [if_pos hb,if_pos hb]
        exact Ev.dT rfl (Ev.pure' (by simp))
      · rw [if_neg hb,if_neg hb]
        refine Ev.dF (by omega) (Ev.opt (appL_ok (by simp only [List.length_cons,List.length_nil]; omega)) ?_)
        rw [wrap_id (by omega) (by omega),show (i:Int)+((dc (s.drop i)).2:Nat)=((i+(dc (s.drop i)).2:Nat):Int) by omega]
        have:=ih (i+(dc (s.drop i)).2) (acc++[(((dc (s.drop i)).1:Nat):Int)]) (by omega) (by omega) (by simp only [List.length_append,List.length_cons,List.length_nil]; omega)
        rw [List.drop_drop,rs_step hne,List.drop_drop]
        simpa using this
    · have e:s.drop i=[]:=List.drop_of_length_le (by omega)
      rw [e,V_nil,if_pos rfl,rs_nil,List.append_nil]
theorem ev_decode (s:List UInt8) (hl:s.length≤1099511627776):Ev (fun K=>ref01_Decode K s) (if V s=true then (rs s,(0:Int)) else ([],4)):=by
  have:=ev_decode_loop s hl s.length 0 [] (by omega) (by omega) (by simp)
  simpa [ref01_Decode] using this

def nmOk:Bool→List Int→Bool
  | _,[]=>true
  | f,r :: t=>(decide (cls r=1) || (!f && (decide (cls r=2) || decide (r=39)))) && nmOk false t

theorem nmOk_cons (f:Bool) (r:Int) (t:List Int):nmOk f (r :: t)=((decide (cls r=1) || (!f && (decide (cls r=2) || decide (r=39)))) && nmOk false t):=rfl

theorem ev_rname_loop (s:List UInt8) (_hl:s.length≤1099511627776):∀ (m i:Nat),s.length - i≤m→i≤s.length→Ev (fun K=>runes_Name_l0 K s (i:Int)) (nmOk (decide (i=0)) (rs (s.drop i))):=by
  intro m
  induction m with
  | zero =>
    intro i hm hi
    have e:s.drop i=[]:=List.drop_of_length_le (by omega)
    refine Ev.step (fun k=>by rw [runes_Name_l0]) (Ev.dF (by omega) (Ev.pure' ?_))
    rw [e,rs_nil]; rfl
  | succ m ih =>
    intro i hm hi
    refine Ev.step (fun k=>by rw [runes_Name_l0]) ?_
    simp only [Int.toNat_natCast,runeAt_dc]
    refine Ev.d (fun h=>?_) (fun h=>Ev.pure' ?_)
    · have hne:=drop_nil_iff h
      have hw:=dc_width (s.drop i)
      have hle:=dc_le hne
      rw [List.length_drop] at hle
      have nxt:=ih (i+(dc (s.drop i)).2) (by omega) (by omega)
      rw [show decide (i+(dc (s.drop i)).2=0)=false from decide_eq_false (by omega)] at nxt
      refine Ev.bind (ev_class1 _) ?_
      rw [rs_step hne,nmOk_cons,List.drop_drop]
      refine Ev.d (fun c1=>?_) (fun c1=>Ev.d (fun c2=>Ev.d (fun z=>Ev.pure' ?_) (fun z=>?_)) (fun c2=>Ev.d (fun z=>Ev.pure' ?_) (fun z=>Ev.n (fun q=>Ev.pure' ?_) (fun q=>?_))))
      · rw [decide_eq_true c1]; simpa using nxt
      · rw [decide_eq_false c1,decide_eq_true (show i=0 by omega)]; simp
      · have:i≠0:=by omega
        simpa [c1,c2,this] using nxt
      · rw [decide_eq_false c1,decide_eq_true (show i=0 by omega)]; simp
      · simp [c1,c2,q]
      · have:i≠0:=by omega
        simpa [c1,c2,q,this] using nxt
    · have e:s.drop i=[]:=List.drop_of_length_le (by omega)
      rw [e,rs_nil]; rfl

def nmS (s:List UInt8):Bool:=decide (s≠[]) && (decide (s.length≤32) && (V s && nmOk true (rs s)))
theorem ev_rname (s:List UInt8):Ev (fun K=>runes_Name K s) (nmS s):=by
  refine Ev.congr (f:=fun K=>_) ?_ (fun K=>by rw [runes_Name])
  unfold nmS
  refine Ev.d (fun h=>Ev.pure' (by simp [h])) (fun h=>Ev.d (fun h2=>Ev.pure' ?_) (fun h2=>Ev.bind (ev_valid s) ?_))
  · rw [decide_eq_false (show ¬ s.length≤32 by omega)]; simp
  · rw [decide_eq_true (show s.length≤32 by omega),decide_eq_true h,Bool.true_and,Bool.true_and]
    refine Ev.is (fun hv=>Ev.pure' ?_) (fun hv=>?_)
    · simp only [Bool.not_eq_true'] at hv; rw [hv]; rfl
    · simp only [Bool.not_eq_false'] at hv
      rw [hv,Bool.true_and]
      have:=ev_rname_loop s (by omega) s.length 0 (by omega) (by omega)
      simpa using this

theorem ev_name2_loop (l:List Int) (hl:l.length≤1099511627776):∀ (m i:Nat),l.length - i≤m→i≤l.length→Ev (fun K=>ref01_Name_l0 K l (i:Int)) (nmOk (decide (i=0)) (l.drop i)):=by
  intro m
  induction m with
  | zero =>
    intro i hm hi
    refine Ev.step (fun k=>by rw [ref01_Name_l0]) (Ev.dF (by omega) (Ev.pure' ?_))
    rw [List.drop_of_length_le (by omega)]; rfl
  | succ m ih =>
    intro i hm hi
    refine Ev.step (fun k=>by rw [ref01_Name_l0]) (Ev.d (fun h=>?_) (fun h=>Ev.pure' ?_))
    · have hlt:i<l.length:=by omega
      have nxt:=ih (i+1) (by omega) (by omega)
      rw [show decide (i+1=0)=false from decide_eq_false (by omega)] at nxt
      rw [drop_get hlt,nmOk_cons]
      refine Ev.opt (getI_lt hlt) (Ev.bind (ev_class2 _) ?_)
      rw [wrap_nat (by omega)]
      refine Ev.n (fun c1=>Ev.d (fun z=>Ev.pure' ?_) (fun z=>Ev.n (fun c2=>Ev.opt (getI_lt hlt) (Ev.n (fun q=>Ev.pure' ?_) (fun q=>?_))) (fun c2=>?_))) (fun c1=>?_)
      · rw [decide_eq_false c1,decide_eq_true (show i=0 by omega)]; simp
      · simp [c1,c2,q]
      · have:i≠0:=by omega
        simpa [c1,c2,q,this] using nxt
      · have:i≠0:=by omega
        simpa [c1,c2,this] using nxt
      · simpa [c1] using nxt
    · rw [List.drop_of_length_le (by omega)]; rfl
theorem rs_len:∀ (n:Nat) (l:List UInt8),l.length≤n→(rs l).length≤l.length:=by
  intro n
  induction n with
  | zero=>intro l h; obtain rfl:=List.length_eq_zero_iff.1 (Nat.le_zero.1 h); simp [rs_nil]
  | succ n ih =>
    intro l h
    by_cases e:l=[]
    · subst e; simp [rs_nil]
    · have h1:1≤l.length:=by cases l with | nil=>exact absurd rfl e | cons=>simp
      have hw:=dc_width l
      rw [rs_step e,List.length_cons]
      have:=ih (l.drop (dc l).2) (by rw [List.length_drop]; omega)
      rw [List.length_drop] at this
      omega
theorem ev_name2 (s:List UInt8) (hl:s.length≤1099511627776):Ev (fun K=>ref01_Name K s) (nmS s):=by
  refine Ev.congr (f:=fun K=>_) ?_ (fun K=>by rw [ref01_Name])
  refine Ev.bind (ev_decode s hl) ?_
  unfold nmS
  by_cases hv:V s=true
  · rw [if_pos hv]
    refine Ev.nF rfl (Ev.d (fun h=>Ev.pure' ?_) (fun h=>Ev.d (fun h2=>Ev.pure' ?_) (fun h2=>?_)))
    · have:s=[]:=List.length_eq_zero_iff.1 (by omega)
      simp [this]
    · rw [decide_eq_false (show ¬ s.length≤32 by omega)]; simp
    · have hne:s≠[]:=by intro e; subst e; simp at h
      rw [decide_eq_true hne,decide_eq_true (show s.length≤32 by omega),hv,Bool.true_and,Bool.true_and,Bool.true_and]
      have:=ev_name2_loop (rs s) (by have:=rs_len _ s (Nat.le_refl _); omega) (rs s).length 0 (by omega) (by omega)
      simpa using this
  · rw [if_neg hv]
    refine Ev.nT (by decide) (Ev.pure' ?_)
    simp [hv]
end Go.Proofs.YtjhfgiieicloeaaGreatDoor

/- Plain facts of bytes, part 7: words, names, what dots part. -/
namespace Go.Proofs.YtjhfgiieicloeaaGreatDoor
open Go Go.Am Go.Sx

def wrds:List (List UInt8):=(lexer_words 0).getD []
theorem words1 (k:Nat):lexer_words k=some wrds:=rfl
theorem words2 (k:Nat):ref02_Words k=some wrds:=rfl
theorem wrds_len:wrds.length≤1000:=by decide

theorem ev_index_loop (l:List (List UInt8)) (x:List UInt8) (hl:l.length≤1099511627776):∀ (m i:Nat),l.length - i≤m→i≤l.length→∃ r,Ev (fun K=>slices_Index_l0 K l x (i:Int)) r∧(0≤r↔x∈l.drop i):=by
  intro m
  induction m with
  | zero =>
    intro i hm hi
    refine ⟨-1,Ev.step (fun k=>by rw [slices_Index_l0]) (Ev.dF (by omega) Ev.pure),?_⟩
    rw [List.drop_of_length_le (by omega)]; simp
  | succ m ih =>
    intro i hm hi
    by_cases hlt:i<l.length
    · obtain ⟨r,h1,h2⟩:=ih (i+1) (by omega) (by omega)
      rw [drop_get hlt]
      by_cases e:x=l[i]
      · refine ⟨i,Ev.step (fun k=>by rw [slices_Index_l0]) (Ev.dT (by omega) (Ev.opt (getI_lt hlt) (Ev.dT e Ev.pure))),?_⟩
        exact ⟨fun _=>List.mem_cons.2 (.inl e),fun _=>by omega⟩
      · refine ⟨r,Ev.step (fun k=>by rw [slices_Index_l0]) (Ev.dT (by omega) (Ev.opt (getI_lt hlt) (Ev.dF e ?_))),?_⟩
        · rw [wrap_nat (by omega)]; exact h1
        · rw [h2,List.mem_cons]; exact ⟨.inr,fun h=>h.resolve_left e⟩
    · refine ⟨-1,Ev.step (fun k=>by rw [slices_Index_l0]) (Ev.dF (by omega) Ev.pure),?_⟩
      rw [List.drop_of_length_le (by omega)]; simp
theorem ev_contains (l:List (List UInt8)) (x:List UInt8) (hl:l.length≤1099511627776):Ev (fun K=>slices_Contains K l x) (decide (x∈l)):=by
  obtain ⟨r,h1,h2⟩:=ev_index_loop l x hl l.length 0 (by omega) (by omega)
  refine Ev.congr (f:=fun K=>(slices_Index_l0 K l x 0).bind fun v1=>some (decide (0≤v1))) (Ev.bind h1 (Ev.pure' ?_)) (fun K=>rfl)
  rw [List.drop_zero] at h2
  exact decide_eq_decide.2 h2
theorem ev_word1 (s:List UInt8):Ev (fun K=>lexer_Word K s) (decide (s∈wrds)) :=
  Ev.congr (f:=fun K=>(slices_Contains K wrds s).bind fun v2=>some v2) (Ev.bind (ev_contains wrds s (by have:=wrds_len; omega)) Ev.pure) fun K=>by rw [lexer_Word,words1,Option.bind_some]
theorem ev_word2_loop (s:List UInt8) (l:List (List UInt8)) (hl:l.length≤1099511627776):∀ (m i:Nat),l.length - i≤m→i≤l.length→Ev (fun K=>ref02_Word_l0 K s l (i:Int)) (decide (s∈l.drop i)):=by
  intro m
  induction m with
  | zero =>
    intro i hm hi
    refine Ev.step (fun k=>by rw [ref02_Word_l0]) (Ev.dF (by omega) (Ev.pure' ?_))
    rw [List.drop_of_length_le (by omega)]; simp
  | succ m ih =>
    intro i hm hi
    refine Ev.step (fun k=>by rw [ref02_Word_l0]) (Ev.d (fun h=>?_) (fun h=>Ev.pure' ?_))
    · have hlt:i<l.length:=by omega
      rw [drop_get hlt]
      refine Ev.opt (getI_lt hlt) (Ev.d (fun e=>Ev.pure' (decide_eq_true (List.mem_cons.2 (.inl e.symm))).symm) (fun e=>?_))
      rw [wrap_nat (by omega)]
      have:=ih (i+1) (by omega) (by omega)
      have e2:decide (s∈l[i] :: l.drop (i+1))=decide (s∈l.drop (i+1)):=decide_eq_decide.2 (by rw [List.mem_cons]; exact ⟨fun h=>h.resolve_left fun q=>e q.symm,.inr⟩)
      rw [e2]; exact this
    · rw [List.drop_of_length_le (by omega)]; simp
theorem ev_word2 (s:List UInt8):Ev (fun K=>ref02_Word K s) (decide (s∈wrds)) :=
  Ev.congr (f:=fun K=>ref02_Word_l0 K s wrds 0) (by simpa using ev_word2_loop s wrds (by have:=wrds_len; omega) wrds.length 0 (by omega) (by omega)) fun K=>by rw [ref02_Word,words2,Option.bind_some]

def ckS (s:List UInt8):Bool:=nmS s && !decide (s∈wrds)
theorem ev_check1 (s:List UInt8):Ev (fun K=>names_Check K s) (ckS s):=by
  refine Ev.congr (f:=fun K=>_) ?_ (fun K=>by rw [names_Check])
  unfold ckS
  refine Ev.bind (ev_rname s) (Ev.is (fun h=>?_) (fun h=>Ev.pure' ?_))
  · rw [h,Bool.true_and]; exact Ev.bind (ev_word1 s) Ev.pure
  · rw [h]; rfl
theorem ev_check2 (s:List UInt8) (hl:s.length≤1099511627776):Ev (fun K=>ref03_Check K s) (ckS s):=by
  refine Ev.congr (f:=fun K=>_) ?_ (fun K=>by rw [ref03_Check])
  unfold ckS
  refine Ev.bind (ev_name2 s hl) (Ev.is (fun h=>?_) (fun h=>Ev.pure' ?_))
  · rw [h,Bool.true_and]; exact Ev.bind (ev_word2 s) Ev.pure
  · rw [h]; rfl
end Go.Proofs.YtjhfgiieicloeaaGreatDoor

/- Plain facts of bytes, part 8: what dots part; long names. -/
namespace Go.Proofs.YtjhfgiieicloeaaGreatDoor
open Go Go.Am Go.Sx

def pcs:List UInt8→List (List UInt8)
  | []=>[[]]
  | b :: t=>if b=46 then [] :: pcs t else (b :: (pcs t).headD []) :: (pcs t).tail
theorem pcs_ne:∀ l,pcs l≠[]
  | []=>by simp [pcs]
  | b :: t=>by unfold pcs; split <;> simp
theorem pcs_ht (l:List UInt8):pcs l=(pcs l).headD [] :: (pcs l).tail:=by
  have:=pcs_ne l
  cases h:pcs l with
  | nil=>exact absurd h this
  | cons x xs=>rfl

theorem idx_spec:∀ l:List UInt8,(Lib.indexByte l 46=-1∧l.count 46=0∧pcs l=[l]) ∨
    (∃ m:Nat,Lib.indexByte l 46=(m:Int)∧m<l.length∧l.count 46=(l.drop (m+1)).count 46+1∧pcs l=l.take m :: pcs (l.drop (m+1)))
  | []=>.inl ⟨rfl,rfl,rfl⟩
  | b :: t=>by
    unfold Lib.indexByte
    by_cases hb:b=46
    · subst hb
      refine .inr ⟨0,by simp,by simp,by simp,?_⟩
      simp [pcs]
    · have hb':(b == (46:UInt8))=false:=by simpa using hb
      rcases idx_spec t with ⟨h1,h2,h3⟩ | ⟨m,h1,h2,h3,h4⟩
      · refine .inl ⟨?_,?_,?_⟩
        · simp [hb',h1]
        · rw [List.count_cons,h2,hb']; rfl
        · unfold pcs; rw [if_neg hb,h3]; rfl
      · refine .inr ⟨m+1,?_,by simpa using h2,?_,?_⟩
        · rw [h1,hb']
          simp only [Bool.false_eq_true,if_false]
          rw [if_neg (by simp)]
          omega
        · rw [List.count_cons,hb',List.drop_succ_cons]; simpa using h3
        · conv=>lhs; unfold pcs
          rw [if_neg hb,h4]; simp [List.take_succ_cons]

theorem take_set {α:Type} {a:List α} {i:Nat} (x:α) (h:i<a.length):(a.set i x).take (i+1)=a.take i++[x]:=by
  rw [take_get' (by rw [List.length_set]; exact h),List.take_set_of_le (Nat.le_refl _),List.getElem_set_self]
theorem ev_idx (s:List UInt8):Ev (fun K=>strings_Index K s [46]) (Lib.indexByte s 46):=⟨0,fun _ _=>rfl⟩
theorem ev_split_loop (n:Nat) (hn:n≤1099511627776):∀ (m i:Nat) (s:List UInt8) (a:List (List UInt8)),n - i≤m→i+s.count 46=n→a.length=n+1→s.length≤1099511627776 →
    Ev (fun K=>strings_genSplit_l0 K s [46] 0 (n:Int) a (i:Int)) (a.take i++pcs s):=by
  intro m
  induction m with
  | zero =>
    intro i s a hm hi ha hs
    have hc:s.count 46=0:=by omega
    have hp:pcs s=[s]:=by
      rcases idx_spec s with ⟨_,_,h⟩ | ⟨_,_,_,h,_⟩
      · exact h
      · omega
    refine Ev.step (fun k=>by rw [strings_genSplit_l0]) (Ev.dF (by omega) (Ev.iteT (by omega) (Ev.opt (getI_lt (j:=i) (by omega)) ?_)))
    rw [wrap_nat (by omega)]
    refine Ev.opt (subL_ok (a:=0) (by omega) (by rw [List.length_set]; omega)) (Ev.pure' ?_)
    rw [List.drop_zero,Int.toNat_natCast,take_set _ (by omega),hp]
  | succ m ih =>
    intro i s a hm hi ha hs
    refine Ev.step (fun k=>by rw [strings_genSplit_l0]) (Ev.d (fun h=>?_) (fun h=>?_))
    · refine Ev.bind (ev_idx s) ?_
      rcases idx_spec s with ⟨_,h2,_⟩ | ⟨j,h1,h2,h3,h4⟩
      · omega
      rw [h1]
      refine Ev.dF (by omega) ?_
      rw [Int.add_zero,wrap_id (x:=(j:Int)) (by omega) (by omega)]
      refine Ev.opt (subL_ok (a:=0) (by omega) (by omega)) (Ev.iteT (by omega) (Ev.opt (getI_lt (j:=i) (by omega)) ?_))
      rw [List.drop_zero,Int.toNat_natCast,wrap_nat (by omega)]
      have e:IntKind.i64.wrap ((j:Int)+(([46]:List UInt8).length:Nat))=((j+1:Nat):Int):=by rw [wrap_id (by simp; omega) (by simp; omega)]; simp
      rw [e]
      refine Ev.opt (subD (a:=j+1) (by omega)) ?_
      have:=ih (i+1) (s.drop (j+1)) (a.set i (s.take j)) (by omega) (by omega) (by rw [List.length_set]; exact ha) (by rw [List.length_drop]; omega)
      rw [take_set _ (by omega),List.append_assoc] at this
      rw [h4]
      exact this
    · have hc:s.count 46=0:=by omega
      have hp:pcs s=[s]:=by
        rcases idx_spec s with ⟨_,_,h⟩ | ⟨_,_,_,h,_⟩
        · exact h
        · omega
      refine Ev.iteT (by omega) (Ev.opt (getI_lt (j:=i) (by omega)) ?_)
      rw [wrap_nat (by omega)]
      refine Ev.opt (subL_ok (a:=0) (by omega) (by rw [List.length_set]; omega)) (Ev.pure' ?_)
      rw [List.drop_zero,Int.toNat_natCast,take_set _ (by omega),hp]

theorem ev_split (s:List UInt8) (hs:s.length≤100000000000):Ev (fun K=>strings_Split K s [46]) (pcs s):=by
  refine Ev.congr (f:=fun K=>_) ?_ (fun K=>by rw [strings_Split])
  refine Ev.bind (a:=pcs s) ?_ Ev.pure
  refine Ev.congr (f:=fun K=>_) ?_ (fun K=>by rw [strings_genSplit])
  refine Ev.dF (by decide) (Ev.dF (by decide) (Ev.dT (by decide) (Ev.bind (a:=((s.count 46:Nat):Int)) ⟨0,fun _ _=>rfl⟩ ?_)))
  have hc:s.count 46≤s.length:=List.count_le_length
  rw [wrap_nat (by omega)]
  refine Ev.step (fun k=>by rw [strings_genSplit_c0]) ?_
  rw [wrap_nat (n:=s.length) (by omega)]
  have e:(if ((s.length+1:Nat):Int)<((s.count 46+1:Nat):Int) then ((s.length+1:Nat):Int) else ((s.count 46+1:Nat):Int))=((s.count 46+1:Nat):Int):=if_neg (by omega)
  rw [e]
  refine Ev.opt (mkL_ok (by omega)) ?_
  rw [wrap_id (by omega) (by omega),show ((s.count 46+1:Nat):Int) - 1=((s.count 46:Nat):Int) by omega]
  have:=ev_split_loop (s.count 46) (by omega) (s.count 46) 0 s (List.replicate (s.count 46+1) []) (by omega) (by omega) (by simp) (by omega)
  simpa using this

theorem pcs_begun:∀ (t u:List UInt8),(∀ b∈u,b≠46)→pcs (u++t)=(u++(pcs t).headD []) :: (pcs t).tail
  | t,[],_=>by rw [List.nil_append,List.nil_append]; exact pcs_ht t
  | t,b :: u,h=>by
    have ih:=pcs_begun t u fun x hx=>h x (List.mem_cons_of_mem _ hx)
    rw [List.cons_append]
    conv=>lhs; unfold pcs
    rw [if_neg (h b List.mem_cons_self),ih]; rfl
theorem ev_pieces_loop (s:List UInt8) (hs:s.length≤100000000000):∀ (m i fr:Nat) (acc:List (List UInt8)),s.length - i≤m→i≤s.length→fr≤i→acc.length≤i→(∀ b∈(s.take i).drop fr,b≠46) →
    Ev (fun K=>ref03_pieces_l0 K s acc (fr:Int) (i:Int)) (acc++pcs (s.drop fr)):=by
  intro m
  induction m with
  | zero =>
    intro i fr acc hm hi hf ha hu
    have hii:i=s.length:=by omega
    subst hii
    rw [List.take_length] at hu
    refine Ev.step (fun k=>by rw [ref03_pieces_l0]) (Ev.dF (by omega) (Ev.opt (subD (a:=fr) hf) ?_))
    refine Ev.opt (appL_ok (by simp only [List.length_cons,List.length_nil]; omega)) (Ev.pure' ?_)
    have:=pcs_begun [] (s.drop fr) hu
    rw [List.append_nil] at this
    rw [this]; simp [pcs]
  | succ m ih =>
    intro i fr acc hm hi hf ha hu
    refine Ev.step (fun k=>by rw [ref03_pieces_l0]) (Ev.d (fun h=>?_) (fun h=>?_))
    · have hlt:i<s.length:=by omega
      refine Ev.opt (getI_lt hlt) ?_
      rw [wrap_nat (by omega)]
      have hsp:s.drop fr=(s.take i).drop fr++s.drop i:=by
        conv=>lhs; rw [← List.take_append_drop i s]
        rw [List.drop_append_of_le_length (by rw [List.length_take]; omega)]
      refine Ev.d (fun hb=>?_) (fun hb=>?_)
      · have hb':s[i]=46:=by apply UInt8.toNat_inj.1; show s[i].toNat=46; omega
        refine Ev.opt (subL_ok hf (by omega)) (Ev.opt (appL_ok (by simp only [List.length_cons,List.length_nil]; omega)) ?_)
        have:=ih (i+1) (i+1) (acc++[(s.take i).drop fr]) (by omega) (by omega) (Nat.le_refl _) (by simp only [List.length_append,List.length_cons,List.length_nil]; omega) (by
          intro b hb
          rw [List.drop_of_length_le (by rw [List.length_take]; omega)] at hb
          cases hb)
        have e:pcs (s.drop fr)=(s.take i).drop fr :: pcs (s.drop (i+1)):=by
          rw [hsp,pcs_begun _ _ hu,drop_get hlt,hb']
          simp [pcs]
        rw [e]
        rw [List.append_assoc] at this
        exact this
      · refine ih (i+1) fr acc (by omega) (by omega) (by omega) (by omega) ?_
        intro b hbm
        rw [take_get' hlt,List.drop_append_of_le_length (by rw [List.length_take]; omega),List.mem_append] at hbm
        rcases hbm with hbm | hbm
        · exact hu b hbm
        · rw [List.mem_singleton] at hbm
          subst hbm
          intro e
          rw [e] at hb
          exact hb rfl
    · have hii:i=s.length:=by omega
      subst hii
      rw [List.take_length] at hu
      refine Ev.opt (subD (a:=fr) hf) (Ev.opt (appL_ok (by simp only [List.length_cons,List.length_nil]; omega)) (Ev.pure' ?_))
      have:=pcs_begun [] (s.drop fr) hu
      rw [List.append_nil] at this
      rw [this]; simp [pcs]
theorem ev_pieces (s:List UInt8) (hs:s.length≤100000000000):Ev (fun K=>ref03_pieces K s) (pcs s) :=
  Ev.congr (f:=fun K=>ref03_pieces_l0 K s [] 0 0) (by simpa using ev_pieces_loop s hs s.length 0 0 [] (by omega) (by omega) (by omega) (by simp) (by simp)) fun K=>by rw [ref03_pieces]
end Go.Proofs.YtjhfgiieicloeaaGreatDoor

/- Plain facts of bytes, part 9: long names. -/
namespace Go.Proofs.YtjhfgiieicloeaaGreatDoor
open Go Go.Am Go.Sx

def lgS (s:List UInt8):Bool:=decide (s.length≤128) && (pcs s).all ckS
theorem pcs_len:∀ s:List UInt8,(pcs s).length≤s.length+1
  | []=>by simp [pcs]
  | b :: t=>by
    have:=pcs_len t
    unfold pcs
    split
    · simp; omega
    · simp only [List.length_cons,List.length_tail]; omega
theorem pcs_mem:∀ (s x:List UInt8),x∈pcs s→x.length≤s.length
  | [],x,h=>by simp [pcs] at h; simp [h]
  | b :: t,x,h=>by
    have ht:=pcs_mem t
    unfold pcs at h
    split at h
    · rcases List.mem_cons.1 h with rfl | h
      · simp
      · have:=ht x h; simp; omega
    · rcases List.mem_cons.1 h with rfl | h
      · have:=ht ((pcs t).headD []) (by rw [pcs_ht t]; simp)
        simp only [List.length_cons]; omega
      · have:=ht x (List.mem_of_mem_tail h); simp; omega
theorem ev_any_loop (l:List (List UInt8)) (hl:l.length≤1099511627776):∀ (m i:Nat),l.length - i≤m→i≤l.length→∃ r,Ev (fun K=>slices_IndexFunc_2_l0 K l (i:Int)) r∧(0≤r↔(l.drop i).all ckS=false):=by
  intro m
  induction m with
  | zero =>
    intro i hm hi
    refine ⟨-1,Ev.step (fun k=>by rw [slices_IndexFunc_2_l0]) (Ev.dF (by omega) Ev.pure),?_⟩
    rw [List.drop_of_length_le (by omega)]; simp
  | succ m ih =>
    intro i hm hi
    by_cases hlt:i<l.length
    · obtain ⟨r,h1,h2⟩:=ih (i+1) (by omega) (by omega)
      have ck:Ev (fun K=>names_Long_1 K l[i]) (!ckS l[i]):=Ev.congr (f:=fun K=>(names_Check K l[i]).bind fun v1=>some (!v1)) (Ev.bind (ev_check1 _) Ev.pure) fun K=>by rw [names_Long_1]
      rw [drop_get hlt,List.all_cons]
      cases hc:ckS l[i] with
      | false =>
        refine ⟨i,Ev.step (fun k=>by rw [slices_IndexFunc_2_l0]) (Ev.dT (by omega) (Ev.opt (getI_lt hlt) (Ev.bind ck (Ev.isT (c:=!ckS l[i]) (by rw [hc]; rfl) Ev.pure)))),?_⟩
        simp
      | true =>
        refine ⟨r,Ev.step (fun k=>by rw [slices_IndexFunc_2_l0]) (Ev.dT (by omega) (Ev.opt (getI_lt hlt) (Ev.bind ck (Ev.isF (c:=!ckS l[i]) (by rw [hc]; rfl) ?_)))),?_⟩
        · rw [wrap_nat (by omega)]; exact h1
        · rw [h2,Bool.true_and]
    · refine ⟨-1,Ev.step (fun k=>by rw [slices_IndexFunc_2_l0]) (Ev.dF (by omega) Ev.pure),?_⟩
      rw [List.drop_of_length_le (by omega)]; simp
theorem ev_long1 (s:List UInt8):Ev (fun K=>names_Long K s) (lgS s):=by
  refine Ev.congr (f:=fun K=>_) ?_ (fun K=>by rw [names_Long])
  unfold lgS
  refine Ev.d (fun h=>?_) (fun h=>Ev.pure' (by rw [decide_eq_false (show ¬ s.length≤128 by omega)]; rfl))
  have hp:=pcs_len s
  refine Ev.bind (ev_split s (by omega)) ?_
  obtain ⟨r,h1,h2⟩:=ev_any_loop (pcs s) (by omega) (pcs s).length 0 (by omega) (by omega)
  refine Ev.bind (a:=decide (0≤r)) (Ev.congr (f:=fun K=>(slices_IndexFunc_2_l0 K (pcs s) 0).bind fun v1=>some (decide (0≤v1))) (Ev.bind h1 Ev.pure) fun K=>by rw [slices_ContainsFunc_2,slices_IndexFunc_2]) (Ev.pure' ?_)
  rw [List.drop_zero] at h2
  rw [decide_eq_true (show s.length≤128 by omega),Bool.true_and]
  cases hc:(pcs s).all ckS with
  | true=>rw [decide_eq_false (by rw [h2,hc]; simp)]; rfl
  | false=>rw [decide_eq_true (h2.2 hc)]; rfl
theorem ev_long2_loop (l:List (List UInt8)) (hl:l.length≤1099511627776) (hx:∀ x∈l,x.length≤1099511627776):∀ (m i:Nat),l.length - i≤m→i≤l.length→Ev (fun K=>ref03_Long_l0 K l (i:Int)) ((l.drop i).all ckS):=by
  intro m
  induction m with
  | zero =>
    intro i hm hi
    refine Ev.step (fun k=>by rw [ref03_Long_l0]) (Ev.dF (by omega) (Ev.pure' ?_))
    rw [List.drop_of_length_le (by omega)]; rfl
  | succ m ih =>
    intro i hm hi
    refine Ev.step (fun k=>by rw [ref03_Long_l0]) (Ev.d (fun h=>?_) (fun h=>Ev.pure' ?_))
    · have hlt:i<l.length:=by omega
      rw [drop_get hlt,List.all_cons]
      refine Ev.opt (getI_lt hlt) (Ev.bind (ev_check2 _ (hx _ (List.getElem_mem hlt))) (Ev.is (fun hc=>Ev.pure' ?_) (fun hc=>?_)))
      · simp only [Bool.not_eq_true'] at hc; rw [hc]; rfl
      · simp only [Bool.not_eq_false'] at hc
        rw [hc,Bool.true_and,wrap_nat (by omega)]
        exact ih (i+1) (by omega) (by omega)
    · rw [List.drop_of_length_le (by omega)]; rfl
theorem ev_long2 (s:List UInt8):Ev (fun K=>ref03_Long K s) (lgS s):=by
  refine Ev.congr (f:=fun K=>_) ?_ (fun K=>by rw [ref03_Long])
  unfold lgS
  refine Ev.d (fun h=>Ev.pure' (by rw [decide_eq_false (show ¬ s.length≤128 by omega)]; rfl)) (fun h=>?_)
  have hp:=pcs_len s
  rw [decide_eq_true (show s.length≤128 by omega),Bool.true_and]
  refine Ev.bind (ev_pieces s (by omega)) ?_
  have:=ev_long2_loop (pcs s) (by omega) (fun x hx=>by have:=pcs_mem s x hx; omega) (pcs s).length 0 (by omega) (by omega)
  simpa using this
end Go.Proofs.YtjhfgiieicloeaaGreatDoor

/- Answers of conditions; a node's name. -/
namespace Go.Proofs.YtjhfgiieicloeaaGreatDoor
open Go Go.Am Go.Sx

section
variable {α β:Type}
theorem Ev.cast {f:Nat→Option α} {a b:α} (h:Ev f a) (e:a=b):Ev f b:=e ▸ h
theorem Ev.ret {f:Nat→Option α} {a:α} (h:Ev f a):Ev (fun K=>(f K).bind fun v=>some v) a:=Ev.bind h Ev.pure
theorem Ev.andB {f g:Nat→Option Bool} {a b:Bool} (h:Ev f a) (k:a=true→Ev g b):Ev (fun K=>(f K).bind fun v=>iteS v (g K) (some false)) (a && b):=by
  refine Ev.bind h ?_
  cases a
  · exact Ev.isF rfl Ev.pure
  · exact Ev.isT rfl (k rfl)
theorem Ev.andN {f g:Nat→Option Bool} {a b:Bool} (h:Ev f a) (k:a=true→Ev g b):Ev (fun K=>(f K).bind fun v=>iteS (!v) (some false) (g K)) (a && b):=by
  refine Ev.bind h ?_
  cases a
  · exact Ev.isT rfl Ev.pure
  · exact Ev.isF rfl (k rfl)
theorem Ev.orB {f g:Nat→Option Bool} {a b:Bool} (h:Ev f a) (k:Ev g b):Ev (fun K=>(f K).bind fun v=>iteS v (some true) (g K)) (a || b):=by
  refine Ev.bind h ?_
  cases a
  · exact Ev.isF rfl k
  · exact Ev.isT rfl Ev.pure
theorem Ev.andD {p:Prop} [Decidable p] {g:Nat→Option Bool} {b:Bool} (k:p→Ev g b):Ev (fun K=>iteS (decide p) (g K) (some false)) (decide p && b):=by
  by_cases h:p
  · rw [decide_eq_true h]; exact Ev.isT rfl (k h)
  · rw [decide_eq_false h]; exact Ev.isF rfl Ev.pure
theorem Ev.andDN {p:Prop} [Decidable p] {g:Nat→Option Bool} {b:Bool} (k:p→Ev g b):Ev (fun K=>iteS (!decide p) (some false) (g K)) (decide p && b):=by
  by_cases h:p
  · rw [decide_eq_true h]; exact Ev.isF rfl (k h)
  · rw [decide_eq_false h]; exact Ev.isT rfl Ev.pure
end

def nameOf:Tr→List UInt8
  | .nil=>[]
  | .node _ _ nm _ _=>nm
theorem lookup_updM:∀ (l:List (List UInt8×Bool)) (a s:List UInt8) (v:Bool),lookupM (updM l a v) s=if s=a then some v else lookupM l s
  | [],a,s,v=>by
    by_cases h:s=a
    · subst h; simp [updM,lookupM]
    · have h':¬ a=s:=fun e=>h e.symm
      simp [updM,lookupM,h,h']
  | p :: l,a,s,v=>by
    have ih:=lookup_updM l a s v
    by_cases h:p.1=a
    · by_cases h2:s=a
      · subst h2; simp [updM,lookupM,h]
      · have h':¬ a=s:=fun e=>h2 e.symm
        have h3:¬ p.1=s:=fun e=>h2 (e.symm.trans h)
        simp [updM,lookupM,h,h2,h']
    · by_cases h2:p.1=s
      · have h3:¬ s=a:=fun e=>h (h2.trans e)
        simp [updM,lookupM,h2,h3]
      · simp only [updM,lookupM,h,h2,decide_false,Bool.false_eq_true,if_false]
        exact ih
theorem lookup_upd {sn:List (List UInt8×Bool)} {a s:List UInt8}:(lookupM (updM sn a true) s).getD false=if s=a then true else (lookupM sn s).getD false:=by
  rw [lookup_updM]
  split <;> rfl
end Go.Proofs.YtjhfgiieicloeaaGreatDoor

/- Functions that come to something of which a proposition is true. -/
namespace Go.Proofs.YtjhfgiieicloeaaGreatDoor
open Go Go.Am Go.Sx
section
variable {α β:Type} {Q:α→Prop}
def Hs (f:Nat→Option α) (Q:α→Prop):Prop:=∃ v,Ev f v∧Q v
theorem Hs.pure {v:α} (h:Q v):Hs (fun _=>some v) Q:=⟨v,Ev.pure,h⟩
theorem Hs.bind {f:Nat→Option β} {g:β→Nat→Option α} {R:β→Prop} (h:Hs f R) (k:∀ a,R a→Hs (g a) Q):Hs (fun K=>(f K).bind fun x=>g x K) Q:=by
  obtain ⟨a,h1,h2⟩:=h
  obtain ⟨b,k1,k2⟩:=k a h2
  exact ⟨b,Ev.bind h1 k1,k2⟩
theorem Hs.opt {x:Option β} {g:β→Nat→Option α} {a:β} (h:x=some a) (k:Hs (g a) Q):Hs (fun K=>x.bind fun y=>g y K) Q:=by
  subst h; exact k
theorem Hs.step {F G:Nat→Option α} (h:∀ k,F (k+1)=G k) (k:Hs G Q):Hs F Q:=by
  obtain ⟨b,k1,k2⟩:=k
  exact ⟨b,Ev.step h k1,k2⟩
theorem Hs.congr {f g:Nat→Option α} (h:Hs f Q) (e:∀ k,g k=f k):Hs g Q:=by
  obtain ⟨b,k1,k2⟩:=h
  exact ⟨b,Ev.congr k1 e,k2⟩
theorem Hs.is {c:Bool} {f g:Nat→Option α} (h1:c=true→Hs f Q) (h2:c=false→Hs g Q):Hs (fun K=>iteS c (f K) (g K)) Q:=by
  cases c
  · exact h2 rfl
  · exact h1 rfl
theorem Hs.d {p:Prop} [Decidable p] {f g:Nat→Option α} (h1:p→Hs f Q) (h2:¬ p→Hs g Q):Hs (fun K=>iteS (decide p) (f K) (g K)) Q :=
  Hs.is (fun h=>h1 (of_decide_eq_true h)) (fun h=>h2 (of_decide_eq_false h))
theorem Hs.n {p:Prop} [Decidable p] {f g:Nat→Option α} (h1:¬ p→Hs f Q) (h2:p→Hs g Q):Hs (fun K=>iteS (!decide p) (f K) (g K)) Q:=by
  by_cases hp:p
  · obtain ⟨b,k1,k2⟩:=h2 hp
    exact ⟨b,Ev.nF hp k1,k2⟩
  · obtain ⟨b,k1,k2⟩:=h1 hp
    exact ⟨b,Ev.nT hp k1,k2⟩
end

end Go.Proofs.YtjhfgiieicloeaaGreatDoor

