/- Joined texts: N1, V0, V1, V2, W1c, V3. -/
import Derived.Test.YtjhfgiieicloeaaGreatDoorGp
import Derived.Test.YtjhfgiieicloeaaGreatDoorGq
/- A number's text: the program's and the document's are the same. -/
namespace Go.Proofs.YtjhfgiieicloeaaGreatDoor
open Go Go.Am Go.Sx
def dgt (d:Nat):UInt8:=UInt8.ofNat (48+d)
def digF:Nat→Nat→List UInt8
  | 0,_=>[]
  | f+1,n=>if n<10 then [dgt n] else digF f (n / 10)++[dgt (n % 10)]
def dig (n:Nat):List UInt8:=digF (n+1) n
theorem digF_eq:∀ (f g n:Nat),n<f→n<g→digF f n=digF g n
  | 0,_,_,h,_=>by omega
  | _+1,0,_,_,h=>by omega
  | f+1,g+1,n,h1,h2=>by
    unfold digF
    by_cases h:n<10
    · rw [if_pos h,if_pos h]
    · rw [if_neg h,if_neg h,digF_eq f g (n / 10) (by omega) (by omega)]
theorem dig_small {n:Nat} (h:n<10):dig n=[dgt n]:=by unfold dig digF; rw [if_pos h]
theorem dig_big {n:Nat} (h:¬ n<10):dig n=dig (n / 10)++[dgt (n % 10)]:=by
  rw [dig,digF,if_neg h,dig,digF_eq n (n / 10+1) (n / 10) (by omega) (by omega)]
theorem dig_len13 {n:Nat} (h:n≤1099511627776):(dig n).length≤13:=by
  have gen:∀ (k n:Nat),n<10 ^ (k+1)→(dig n).length≤k+1:=by
    intro k
    induction k with
    | zero=>intro n h; rw [dig_small (by omega)]; simp
    | succ k ih =>
      intro n h
      by_cases h10:n<10
      · rw [dig_small h10]; simp
      · rw [dig_big h10]
        have:=ih (n / 10) (by rw [Nat.pow_succ] at h; omega)
        simp only [List.length_append,List.length_cons,List.length_nil]
        omega
  exact gen 12 n (by omega)
def numS (n:Int):List UInt8:=(if n<0 then [126] else [])++dig n.natAbs
theorem numS_len {n:Int} (h:n.natAbs≤1099511627776):(numS n).length≤14:=by
  have:=dig_len13 h
  unfold numS
  by_cases h0:n<0
  · rw [if_pos h0]; simp; omega
  · rw [if_neg h0]; simp; omega
theorem digit_at:∀ d:Nat,d<10→(([48,49,50,51,52,53,54,55,56,57]:List UInt8).take (d+1)).drop d=[dgt d]:=by decide

theorem ev_Number2:∀ (b:Nat) (n:Int),n.natAbs≤b→b≤1099511627776→Ev (fun K=>ref02_Number K n) (numS n):=by
  intro b
  induction b with
  | zero =>
    intro n hn _
    have e:n=0:=by omega
    subst e
    refine Ev.step (fun k=>by rw [ref02_Number]) ?_
    refine Ev.dF (by decide) (Ev.dF (by decide) (Ev.dT (by decide) ?_))
    exact Ev.opt (a:=[48]) rfl (Ev.pure' rfl)
  | succ b ih =>
    intro n hn hb
    have q1:=Int.tmod_add_mul_tdiv n 10
    have q2:=Int.tmod_lt_of_pos n (b:=10) (by decide)
    have q3:=Int.lt_tmod_of_pos n (b:=10) (by decide)
    have quo:divI .quo .i64 n 10=some (n.tdiv 10):=by
      show (if (10:Int)=0 then none else some (IntKind.i64.wrap (n.tdiv 10)))=_
      rw [if_neg (by decide),wrap_id (by omega) (by omega)]
    have rem:divI .rem .i64 n 10=some (n.tmod 10):=by
      show (if (10:Int)=0 then none else some (n.tmod 10))=_
      rw [if_neg (by decide)]
    refine Ev.step (fun k=>by rw [ref02_Number]) ?_
    have sub1:∀ (a c:Int) (d:Nat),a=(d:Int)→c=((d+1:Nat):Int)→d<10→subL ([48,49,50,51,52,53,54,55,56,57]:List UInt8) a c=some [dgt d]:=by
      intro a c d ha hc hd
      rw [ha,hc,subL_ok (by omega) (by simp; omega),digit_at d hd]
    by_cases hneg:n<0
    · have q4:n.tmod 10≤0:=by
        have:=Int.tmod_nonneg 10 (a:=-n) (by omega)
        rw [Int.neg_tmod] at this
        omega
      refine Ev.dT hneg ?_
      by_cases h10:-10<n
      · refine Ev.dT h10 ?_
        refine Ev.opt (sub1 _ _ n.natAbs (by rw [wrap_id (by omega) (by omega)]; omega) (by rw [wrap_id (by omega) (by omega)]; omega) (by omega)) ?_
        refine Ev.opt (catS_ok (by simp)) (Ev.pure' ?_)
        unfold numS
        rw [if_pos hneg,dig_small (by omega)]
      · refine Ev.dF h10 (Ev.dT hneg ?_)
        refine Ev.opt quo ?_
        refine Ev.opt rem ?_
        refine Ev.opt rem ?_
        refine Ev.opt (sub1 _ _ (n.natAbs % 10) (by rw [wrap_id (by omega) (by omega)]; omega) (by rw [wrap_id (by omega) (by omega)]; omega) (by omega)) ?_
        refine Ev.bind (ih (n.tdiv 10) (by omega) (by omega)) ?_
        have:=numS_len (n:=n.tdiv 10) (by omega)
        refine Ev.opt (catS_ok (by simp; omega)) (Ev.pure' ?_)
        unfold numS
        rw [if_pos hneg,if_pos (by omega),dig_big (n:=n.natAbs) (by omega),show (n.tdiv 10).natAbs=n.natAbs / 10 by omega,List.append_assoc]
    · have q4:0≤n.tmod 10:=Int.tmod_nonneg 10 (by omega)
      refine Ev.dF hneg (Ev.dF hneg ?_)
      by_cases h10:n<10
      · refine Ev.dT h10 ?_
        refine Ev.opt (sub1 _ _ n.natAbs (by omega) (by rw [wrap_id (by omega) (by omega)]; omega) (by omega)) (Ev.pure' ?_)
        unfold numS
        rw [if_neg hneg,dig_small (by omega)]; rfl
      · refine Ev.dF h10 ?_
        refine Ev.opt quo ?_
        refine Ev.opt rem ?_
        refine Ev.opt rem ?_
        refine Ev.opt (sub1 _ _ (n.natAbs % 10) (by omega) (by rw [wrap_id (by omega) (by omega)]; omega) (by omega)) ?_
        refine Ev.bind (ih (n.tdiv 10) (by omega) (by omega)) ?_
        have:=numS_len (n:=n.tdiv 10) (by omega)
        refine Ev.opt (catS_ok (by simp; omega)) (Ev.pure' ?_)
        unfold numS
        rw [if_neg hneg,if_neg (by omega),dig_big (n:=n.natAbs) (by omega),show (n.tdiv 10).natAbs=n.natAbs / 10 by omega,List.append_assoc]

/-! ### the program's: digits from the last one on, turned round -/
theorem wrapU64 {x:Int} (h1:0≤x) (h2:x≤18446744073709551615):IntKind.u64.wrap x=x:=by
  show (if (false && decide (x % 18446744073709551616 ≥ 9223372036854775808))=true then x % 18446744073709551616 - 18446744073709551616 else x % 18446744073709551616)=x
  simp only [Bool.false_and,Bool.false_eq_true,if_false]
  omega
theorem wrapU64n {x:Int} (h1:x<0) (h2:-18446744073709551616≤x):IntKind.u64.wrap x=x+18446744073709551616:=by
  show (if (false && decide (x % 18446744073709551616 ≥ 9223372036854775808))=true then x % 18446744073709551616 - 18446744073709551616 else x % 18446744073709551616)=_
  simp only [Bool.false_and,Bool.false_eq_true,if_false]
  omega
theorem ev_rev:∀ (b:Nat) (A M B:List Int),M.length≤b→A.length+M.length+B.length≤1000→Ev (fun K=>slices_Reverse_l0 K (A++M++B) (A.length:Int) ((A.length:Int)+(M.length:Int) - 1)) (A++M.reverse++B):=by
  intro b
  induction b with
  | zero =>
    intro A M B hb hl
    have e:M=[]:=List.length_eq_zero_iff.1 (by omega)
    subst e
    refine Ev.step (fun k=>by rw [slices_Reverse_l0]) ?_
    exact Ev.dF (by simp; omega) (Ev.pure' (by simp))
  | succ b ih =>
    intro A M B hb hl
    match M,hb,hl with
    | [],_,_ =>
      refine Ev.step (fun k=>by rw [slices_Reverse_l0]) ?_
      exact Ev.dF (by simp; omega) (Ev.pure' (by simp))
    | [x],_,_ =>
      refine Ev.step (fun k=>by rw [slices_Reverse_l0]) ?_
      exact Ev.dF (by simp) (Ev.pure' (by simp))
    | x :: x' :: r,hb,hl =>
      obtain ⟨M',y,hM⟩:∃ M' y,x' :: r=M'++[y]:=⟨(x' :: r).dropLast,(x' :: r).getLast (by simp),(List.dropLast_concat_getLast (by simp)).symm⟩
      rw [hM] at hb hl ⊢
      have hlen:(A++(x :: (M'++[y]))++B).length=A.length+M'.length+2+B.length:=by simp; omega
      simp only [List.length_cons,List.length_append,List.length_nil] at hb hl
      have ej:(A.length:Int)+((x :: (M'++[y])).length:Nat) - 1=((A.length+M'.length+1:Nat):Int):=by simp; omega
      rw [ej]
      refine Ev.step (fun k=>by rw [slices_Reverse_l0]) ?_
      refine Ev.dT (by omega) ?_
      have gy:getI (A++(x :: (M'++[y]))++B) ((A.length+M'.length+1:Nat):Int)=some y:=by
        rw [getI_nat,show A++(x :: (M'++[y]))++B=(A++x :: M')++(y :: B) by simp,List.getElem?_append_right (by simp; omega)]
        simp [show A.length+M'.length+1 - (A.length+(M'.length+1))=0 by omega]
      have gx:getI (A++(x :: (M'++[y]))++B) (A.length:Int)=some x:=by
        rw [getI_nat,List.append_assoc,List.getElem?_append_right (by omega)]
        simp
      have s1:(A++(x :: (M'++[y]))++B).set A.length y=A++(y :: (M'++[y]))++B:=by
        rw [List.append_assoc,List.set_append_right _ _ (by omega)]
        simp
      have s2:(A++(y :: (M'++[y]))++B).set (A.length+M'.length+1) x=(A++[y])++M'++(x :: B):=by
        rw [show A++(y :: (M'++[y]))++B=(A++y :: M')++(y :: B) by simp,List.set_append_right _ _ (by simp; omega)]
        simp [show A.length+M'.length+1 - (A.length+(M'.length+1))=0 by omega]
      refine Ev.iteT ⟨by omega,by rw [hlen]; omega⟩ ?_
      refine Ev.opt gy ?_
      refine Ev.iteT ⟨by omega,by rw [hlen]; omega⟩ ?_
      refine Ev.opt gx ?_
      refine Ev.iteT ⟨by omega,by rw [hlen]; omega⟩ ?_
      refine Ev.opt gx ?_
      rw [show ((A.length:Int)).toNat=A.length by omega,show (((A.length+M'.length+1:Nat):Int)).toNat=A.length+M'.length+1 by omega,s1,s2]
      refine Ev.iteT ⟨by omega,by simp; omega⟩ ?_
      refine Ev.opt (a:=y) ?_ ?_
      · rw [getI_nat,show A++(y :: (M'++[y]))++B=(A++y :: M')++(y :: B) by simp,List.getElem?_append_right (by simp; omega)]
        simp [show A.length+M'.length+1 - (A.length+(M'.length+1))=0 by omega]
      · rw [wrap_nat (by omega),wrap_id (by omega) (by omega)]
        have:=ih (A++[y]) M' (x :: B) (by omega) (by simp; omega)
        rw [show ((A.length+M'.length+1:Nat):Int) - 1=((A++[y]).length:Nat)+(M'.length:Int) - 1 by simp; omega,show ((A.length+1:Nat):Int)=((A++[y]).length:Nat) by simp]
        refine Ev.cast this ?_
        simp
theorem ev_Reverse (l:List Int) (h:l.length≤1000) (h1:1≤l.length):Ev (fun K=>slices_Reverse K l) l.reverse:=by
  refine Ev.congr (f:=fun K=>_) ?_ (fun k=>by rw [slices_Reverse])
  have:=ev_rev l.length [] l [] (Nat.le_refl _) (by simp; omega)
  rw [wrap_id (by omega) (by omega)]
  simpa using this
def rdgF:Nat→Nat→List Int
  | 0,_=>[]
  | f+1,n=>((48+n % 10:Nat):Int) :: (if n<10 then [] else rdgF f (n / 10))
theorem rdgF_dig:∀ (f n:Nat),n<10 ^ f→1≤f→encB (rdgF f n).reverse=dig n
  | 0,_,_,h=>by omega
  | f+1,n,h,_=>by
    unfold rdgF
    by_cases h10:n<10
    · rw [if_pos h10,dig_small h10,Nat.mod_eq_of_lt h10]; rfl
    · rw [if_neg h10,dig_big h10]
      have hf:1≤f:=by
        cases f with
        | zero=>simp at h; omega
        | succ f=>omega
      have:=rdgF_dig f (n / 10) (by rw [Nat.pow_succ] at h; omega) hf
      simp only [encB] at this
      simp only [encB,List.reverse_cons,List.map_append,this,List.map_cons,List.map_nil]
      rfl
theorem ev_Number_l0 (sign:List UInt8) (hs:sign.length≤10):∀ (f n:Nat) (acc:List Int),n<10 ^ f→1≤f→acc.length+f≤900→n≤1099511627776→Ev (fun K=>lexer_Number_l0 K (n:Int) sign acc true) (sign++encB (acc++rdgF f n).reverse)
  | 0,_,_,_,h,_,_=>by omega
  | f+1,n,acc,h,_,ha,hn=>by
    have q1:=Int.tmod_add_mul_tdiv (n:Int) 10
    have q2:=Int.tmod_lt_of_pos (n:Int) (b:=10) (by decide)
    have q4:0≤(n:Int).tmod 10:=Int.tmod_nonneg 10 (by omega)
    have em:(n:Int).tmod 10=((n % 10:Nat):Int):=by omega
    have eq:(n:Int).tdiv 10=((n / 10:Nat):Int):=by omega
    have quo:divI .quo .u64 (n:Int) 10=some ((n / 10:Nat):Int):=by
      show (if (10:Int)=0 then none else some (IntKind.u64.wrap ((n:Int).tdiv 10)))=_
      rw [if_neg (by decide),eq,wrapU64 (by omega) (by omega)]
    have rem:divI .rem .u64 (n:Int) 10=some ((n % 10:Nat):Int):=by
      show (if (10:Int)=0 then none else some ((n:Int).tmod 10))=_
      rw [if_neg (by decide),em]
    refine Ev.step (fun k=>by rw [lexer_Number_l0]) ?_
    refine Ev.isT rfl ?_
    refine Ev.opt rem ?_
    rw [wrapU64 (x:=48+((n % 10:Nat):Int)) (by omega) (by omega),wrapU8 (x:=48+((n % 10:Nat):Int)) (by omega) (by omega)]
    refine Ev.opt (appL_ok (by simp; omega)) ?_
    refine Ev.opt quo ?_
    unfold rdgF
    rw [show (48:Int)+((n % 10:Nat):Int)=((48+n % 10:Nat):Int) by omega]
    by_cases h10:n<10
    · rw [if_pos h10,decide_eq_false (show ¬ (0:Int)<((n / 10:Nat):Int) by omega)]
      refine Ev.step (fun k=>by rw [lexer_Number_l0]) ?_
      refine Ev.isF rfl ?_
      refine Ev.bind (ev_Reverse _ (by simp; omega) (by simp)) ?_
      refine Ev.iteT (by simp) ?_
      refine Ev.opt (catS_ok (by simp [encB]; omega)) Ev.pure
    · rw [if_neg h10,decide_eq_true (show (0:Int)<((n / 10:Nat):Int) by omega)]
      have hf:1≤f:=by
        cases f with
        | zero=>simp at h; omega
        | succ f=>omega
      have:=ev_Number_l0 sign hs f (n / 10) (acc++[((48+n % 10:Nat):Int)]) (by rw [Nat.pow_succ] at h; omega) hf (by simp; omega) (by omega)
      rw [List.append_assoc] at this
      exact this
theorem ev_Number1 (n:Int) (hn:n.natAbs≤1099511627776):Ev (fun K=>lexer_Number K n) (numS n):=by
  refine Ev.congr (f:=fun K=>_) ?_ (fun k=>by rw [lexer_Number])
  have core:∀ sign:List UInt8,sign.length≤10→Ev (fun K=>lexer_Number_c0 K (n.natAbs:Int) sign) (sign++dig n.natAbs):=fun sign hs=>by
    refine Ev.step (fun k=>by rw [lexer_Number_c0]) ?_
    have:=ev_Number_l0 sign hs 13 n.natAbs [] (by omega) (by omega) (by simp) hn
    rw [List.nil_append,rdgF_dig 13 _ (by omega) (by omega)] at this
    exact this
  unfold numS
  refine Ev.d (fun hneg=>?_) (fun hneg=>?_)
  · rw [if_pos hneg,wrapU64n hneg (by omega),wrapU64n (by omega) (by omega),show 0 - (n+18446744073709551616)+18446744073709551616=(n.natAbs:Int) by omega]
    exact core [126] (by simp)
  · rw [if_neg hneg,wrapU64 (by omega) (by omega)]
    have:=core [] (by simp)
    rwa [show (n.natAbs:Int)=n by omega] at this
end Go.Proofs.YtjhfgiieicloeaaGreatDoor

/- The forms of expressions. -/
namespace Go.Proofs.YtjhfgiieicloeaaGreatDoor
open Go Go.Am Go.Sx
theorem body_parts {n:Int} {nm mk:List UInt8} {ks:List Tr} {r:Row} (h:bodyS isT n nm mk ks r=true):wordS nm r.2.2.1=true∧wordS mk r.2.2.2.1=true∧(r.2.2.2.2.1≤n∧n≤r.2.2.2.2.2.1)∧kidsS isT r.2.2.2.2.2.2 ks=true:=by
  unfold bodyS at h
  simp only [Bool.and_eq_true,decide_eq_true_eq] at h
  exact ⟨h.1,h.2.1,⟨h.2.2.1,h.2.2.2.1⟩,h.2.2.2.2⟩
theorem word_e {s:List UInt8} (h:wordS s []=true):s=[]:=of_decide_eq_true h
theorem kid_0 {l:List Tr} (h:kidsS isT [] l=true):l=[]:=List.length_eq_zero_iff.1 (of_decide_eq_true h)
theorem kid_e {l:List Tr} (h:kidsS isT [101] l=true):∃ x,l=[x]∧isT 2 x=true:=by
  rw [kidsS_1 (a:=101) (c:=2) (by decide) (by decide) (by decide) rfl] at h
  exact k1S_form h
theorem kid_ee {l:List Tr} (h:kidsS isT [101,101] l=true):∃ x y,l=[x,y]∧isT 2 x=true∧isT 2 y=true:=by
  rw [kidsS_2 (a:=101) (b:=101) (c:=2) (d:=2) (by decide) (by decide) (by decide) (by decide) (by decide) (by decide) rfl rfl] at h
  exact k2S_form h
theorem kid_te {l:List Tr} (h:kidsS isT [116,101] l=true):∃ x y,l=[x,y]∧isT 1 x=true∧isT 2 y=true:=by
  rw [kidsS_2 (a:=116) (b:=101) (c:=1) (d:=2) (by decide) (by decide) (by decide) (by decide) (by decide) (by decide) rfl rfl] at h
  exact k2S_form h
theorem kid_eee {l:List Tr} (h:kidsS isT [101,101,101] l=true):∃ x y z,l=[x,y,z]∧isT 2 x=true∧isT 2 y=true∧isT 2 z=true:=by
  match l with
  | []=>cases h
  | x :: r =>
    have e:kidsS isT [101,101,101] (x :: r)=(isT 2 x && kidsS isT [101,101] r):=rfl
    rw [e,Bool.and_eq_true] at h
    obtain ⟨y,z,rfl,hy,hz⟩:=kid_ee h.2
    exact ⟨x,y,z,rfl,h.1,hy,hz⟩
theorem kid_A {l:List Tr} (h:kidsS isT [65] l=true):l≠[]∧∀ y∈l,isT 9 y=true:=by
  have e:kidsS isT [65] l=(l.all (isT 9) && decide (0<l.length)):=rfl
  rw [e,Bool.and_eq_true] at h
  refine ⟨fun hn=>?_,fun y hy=>List.all_eq_true.1 h.1 y hy⟩
  rw [hn] at h; simp at h
theorem kid_eA {l:List Tr} (h:kidsS isT [101,65] l=true):∃ x r,l=x :: r∧isT 2 x=true∧r≠[]∧∀ y∈r,isT 9 y=true:=by
  match l with
  | []=>cases h
  | x :: r =>
    have e:kidsS isT [101,65] (x :: r)=(isT 2 x && kidsS isT [65] r):=rfl
    rw [e,Bool.and_eq_true] at h
    exact ⟨x,r,rfl,h.1,kid_A h.2⟩
theorem kid_etA {l:List Tr} (h:kidsS isT [101,116,65] l=true):∃ x t r,l=x :: t :: r∧isT 2 x=true∧isT 1 t=true∧r≠[]∧∀ y∈r,isT 9 y=true:=by
  match l with
  | []=>cases h
  | [x] =>
    have e:kidsS isT [101,116,65] [x]=(isT 2 x && false):=rfl
    rw [e,Bool.and_false] at h; cases h
  | x :: t :: r =>
    have e:kidsS isT [101,116,65] (x :: t :: r)=(isT 2 x && (isT 1 t && kidsS isT [65] r)):=rfl
    rw [e,Bool.and_eq_true,Bool.and_eq_true] at h
    exact ⟨x,t,r,rfl,h.1,h.2.1,kid_A h.2.2⟩
inductive Ex:Tr→Prop
  | int (n:Int) (h:-1073741824≤n∧n≤1073741824):Ex (.node 20 n [] [] [])
  | bool (n:Int) (h:n=0∨n=1):Ex (.node 21 n [] [] [])
  | unit:Ex (.node 22 0 [] [] [])
  | var (s:List UInt8) (h:lgS s=true):Ex (.node 23 0 s [] [])
  | lam (s:List UInt8) (t b:Tr) (h:ckS s=true) (ht:isT 1 t=true) (hb:isT 2 b=true):Ex (.node 24 0 s [] [t,b])
  | app (a b:Tr) (ha:isT 2 a=true) (hb:isT 2 b=true):Ex (.node 25 0 [] [] [a,b])
  | pair (a b:Tr) (ha:isT 2 a=true) (hb:isT 2 b=true):Ex (.node 26 0 [] [] [a,b])
  | fst (a:Tr) (ha:isT 2 a=true):Ex (.node 27 0 [] [] [a])
  | snd (a:Tr) (ha:isT 2 a=true):Ex (.node 28 0 [] [] [a])
  | let_ (s:List UInt8) (a b:Tr) (h:ckS s=true) (ha:isT 2 a=true) (hb:isT 2 b=true):Ex (.node 29 0 s [] [a,b])
  | if_ (a b c:Tr) (ha:isT 2 a=true) (hb:isT 2 b=true) (hc:isT 2 c=true):Ex (.node 30 0 [] [] [a,b,c])
  | op (n:Int) (a b:Tr) (h:1≤n∧n≤5) (ha:isT 2 a=true) (hb:isT 2 b=true):Ex (.node 31 n [] [] [a,b])
  | case_ (a:Tr) (r:List Tr) (ha:isT 2 a=true) (h0:r≠[]) (hr:∀ y∈r,isT 9 y=true):Ex (.node 32 0 [] [] (a :: r))
  | fold_ (a t:Tr) (r:List Tr) (ha:isT 2 a=true) (ht:isT 1 t=true) (h0:r≠[]) (hr:∀ y∈r,isT 9 y=true):Ex (.node 33 0 [] [] (a :: t :: r))
theorem ex_of {t:Tr} (h:isT 2 t=true):Ex t:=by
  obtain ⟨k,n,nm,mk,ks,rfl⟩:=node_of h
  have hk:k∈kindsOf 2:=by
    by_cases e:k∈kindsOf 2
    · exact e
    · rw [isT_none e] at h; cases h
  have hk:k=20∨k=21∨k=22∨k=23∨k=24∨k=25∨k=26∨k=27∨k=28∨k=29∨k=30∨k=31∨k=32∨k=33:=by
    simpa [show kindsOf 2=[20,21,22,23,24,25,26,27,28,29,30,31,32,33] from rfl] using hk
  rcases hk with rfl | rfl | rfl | rfl | rfl | rfl | rfl | rfl | rfl | rfl | rfl | rfl | rfl | rfl
  · rw [isT_row (r:=(2,20,[],[],-1073741824,1073741824,[])) rfl] at h
    obtain ⟨h1,h2,h3,h4⟩:=body_parts h
    obtain rfl:=word_e h1; obtain rfl:=word_e h2; obtain rfl:=kid_0 h4
    exact .int n h3
  · rw [isT_row (r:=(2,21,[],[],0,1,[])) rfl] at h
    obtain ⟨h1,h2,h3,h4⟩:=body_parts h
    obtain rfl:=word_e h1; obtain rfl:=word_e h2; obtain rfl:=kid_0 h4
    have h3:0≤n∧n≤1:=h3
    exact .bool n (by omega)
  · rw [isT_row (r:=(2,22,[],[],0,0,[])) rfl] at h
    obtain ⟨h1,h2,h3,h4⟩:=body_parts h
    obtain rfl:=word_e h1; obtain rfl:=word_e h2; obtain rfl:=kid_0 h4
    have h3:0≤n∧n≤0:=h3
    obtain rfl:n=0:=by omega
    exact .unit
  · rw [isT_row (r:=(2,23,[108],[],0,0,[])) rfl] at h
    obtain ⟨h1,h2,h3,h4⟩:=body_parts h
    obtain rfl:=word_e h2; obtain rfl:=kid_0 h4
    have h3:0≤n∧n≤0:=h3
    obtain rfl:n=0:=by omega
    exact .var nm h1
  · rw [isT_row (r:=(2,24,[110],[],0,0,[116,101])) rfl] at h
    obtain ⟨h1,h2,h3,h4⟩:=body_parts h
    obtain rfl:=word_e h2; obtain ⟨x,y,rfl,hx,hy⟩:=kid_te h4
    have h3:0≤n∧n≤0:=h3
    obtain rfl:n=0:=by omega
    exact .lam nm x y h1 hx hy
  · rw [isT_row (r:=(2,25,[],[],0,0,[101,101])) rfl] at h
    obtain ⟨h1,h2,h3,h4⟩:=body_parts h
    obtain rfl:=word_e h1; obtain rfl:=word_e h2; obtain ⟨x,y,rfl,hx,hy⟩:=kid_ee h4
    have h3:0≤n∧n≤0:=h3
    obtain rfl:n=0:=by omega
    exact .app x y hx hy
  · rw [isT_row (r:=(2,26,[],[],0,0,[101,101])) rfl] at h
    obtain ⟨h1,h2,h3,h4⟩:=body_parts h
    obtain rfl:=word_e h1; obtain rfl:=word_e h2; obtain ⟨x,y,rfl,hx,hy⟩:=kid_ee h4
    have h3:0≤n∧n≤0:=h3
    obtain rfl:n=0:=by omega
    exact .pair x y hx hy
  · rw [isT_row (r:=(2,27,[],[],0,0,[101])) rfl] at h
    obtain ⟨h1,h2,h3,h4⟩:=body_parts h
    obtain rfl:=word_e h1; obtain rfl:=word_e h2; obtain ⟨x,rfl,hx⟩:=kid_e h4
    have h3:0≤n∧n≤0:=h3
    obtain rfl:n=0:=by omega
    exact .fst x hx
  · rw [isT_row (r:=(2,28,[],[],0,0,[101])) rfl] at h
    obtain ⟨h1,h2,h3,h4⟩:=body_parts h
    obtain rfl:=word_e h1; obtain rfl:=word_e h2; obtain ⟨x,rfl,hx⟩:=kid_e h4
    have h3:0≤n∧n≤0:=h3
    obtain rfl:n=0:=by omega
    exact .snd x hx
  · rw [isT_row (r:=(2,29,[110],[],0,0,[101,101])) rfl] at h
    obtain ⟨h1,h2,h3,h4⟩:=body_parts h
    obtain rfl:=word_e h2; obtain ⟨x,y,rfl,hx,hy⟩:=kid_ee h4
    have h3:0≤n∧n≤0:=h3
    obtain rfl:n=0:=by omega
    exact .let_ nm x y h1 hx hy
  · rw [isT_row (r:=(2,30,[],[],0,0,[101,101,101])) rfl] at h
    obtain ⟨h1,h2,h3,h4⟩:=body_parts h
    obtain rfl:=word_e h1; obtain rfl:=word_e h2; obtain ⟨x,y,z,rfl,hx,hy,hz⟩:=kid_eee h4
    have h3:0≤n∧n≤0:=h3
    obtain rfl:n=0:=by omega
    exact .if_ x y z hx hy hz
  · rw [isT_row (r:=(2,31,[],[],1,5,[101,101])) rfl] at h
    obtain ⟨h1,h2,h3,h4⟩:=body_parts h
    obtain rfl:=word_e h1; obtain rfl:=word_e h2; obtain ⟨x,y,rfl,hx,hy⟩:=kid_ee h4
    exact .op n x y h3 hx hy
  · rw [isT_row (r:=(2,32,[],[],0,0,[101,65])) rfl] at h
    obtain ⟨h1,h2,h3,h4⟩:=body_parts h
    obtain rfl:=word_e h1; obtain rfl:=word_e h2; obtain ⟨x,r,rfl,hx,h0,hr⟩:=kid_eA h4
    have h3:0≤n∧n≤0:=h3
    obtain rfl:n=0:=by omega
    exact .case_ x r hx h0 hr
  · rw [isT_row (r:=(2,33,[],[],0,0,[101,116,65])) rfl] at h
    obtain ⟨h1,h2,h3,h4⟩:=body_parts h
    obtain rfl:=word_e h1; obtain rfl:=word_e h2; obtain ⟨x,t,r,rfl,hx,ht,h0,hr⟩:=kid_etA h4
    have h3:0≤n∧n≤0:=h3
    obtain rfl:n=0:=by omega
    exact .fold_ x t r hx ht h0 hr
theorem arm_of {y:Tr} (h:isT 9 y=true):∃ c x e,y=.node 34 0 c x [e]∧ckS c=true∧ckS x=true∧isT 2 e=true:=by
  obtain ⟨k,n,nm,mk,ks,rfl⟩:=node_of h
  have hk:k=34:=by
    by_cases e:k∈kindsOf 9
    · simpa [show kindsOf 9=[34] from rfl] using e
    · rw [isT_none e] at h; cases h
  subst hk
  rw [isT_row (r:=(9,34,[110],[110],0,0,[101])) rfl] at h
  obtain ⟨h1,h2,h3,h4⟩:=body_parts h
  obtain ⟨x,rfl,hx⟩:=kid_e h4
  have h3:0≤n∧n≤0:=h3
  obtain rfl:n=0:=by omega
  exact ⟨nm,mk,x,rfl,h1,h2,hx⟩
end Go.Proofs.YtjhfgiieicloeaaGreatDoor

/- The program's writer of expressions, form by form: what it writes out of what it writes of the kids. -/
namespace Go.Proofs.YtjhfgiieicloeaaGreatDoor
open Go Go.Am Go.Sx
def lvO (n:Int):Int:=if n<3 then 2 else if n=3 then 3 else 1
def lfO (n:Int):Int:=if n=3 then 3 else 2
def sgO (n:Int):List UInt8:=if n=1 then [32,43,32] else if n=2 then [32,45,32] else if n=3 then [32,42,32] else if n=4 then [32,61,32] else [32,60,32]
theorem sgO_len (n:Int):(sgO n).length=3:=by unfold sgO; (repeat' split) <;> rfl
def lvE:Tr→Int
  | .nil=>5
  | .node k n _ _ _=>if k=24 then 0 else if k=29 then 0 else if k=30 then 0 else if k=32 then 0 else if k=33 then 0 else if k=25 then 4 else if k=31 then lvO n else 5
theorem lvE_0 (t:Tr):¬ lvE t<0:=by
  cases t with
  | nil=>decide
  | node k n nm mk ks=>unfold lvE lvO; simp only []; (repeat' split) <;> decide
def PW (t:Tr) (v:List UInt8):Prop:=∀ lv:Int,lv≤5→Ev (fun K=>pexpr_write K t lv) (par (decide (lvE t<lv)) v)
theorem PW.zero {t:Tr} {v:List UInt8} (h:PW t v):Ev (fun K=>pexpr_write K t 0) v:=by
  have:=h 0 (by decide)
  rwa [decide_eq_false (lvE_0 t)] at this
theorem pw1 {k n:Int} {nm mk:List UInt8} {ks:List Tr} {i lv:Int} {x:Tr} {v:List UInt8} (hg:getI ks i=some x) (h:Ev (fun K=>pexpr_write K x lv) v):Ev (fun K=>pexpr_write_1 K i lv (.node k n nm mk ks)) v:=by
  refine Ev.step (fun k=>by rw [pexpr_write_1]) ?_
  exact Ev.opt hg (Ev.ret h)
theorem ev_paren7 (b:Bool) (s:List UInt8) (hs:s.length≤1125899906842624):Ev (fun K=>pexpr_paren K b s) (par b s):=by
  refine Ev.congr (f:=fun K=>_) ?_ (fun k=>by rw [pexpr_paren])
  unfold par
  cases b
  · exact Ev.isF rfl Ev.pure
  · exact Ev.isT rfl (Ev.opt (catS_ok (by simp; omega)) (Ev.opt (catS_ok (by simp; omega)) Ev.pure))
theorem par_at {t:Tr} {lv:Int} {v:List UInt8} (h5:lvE t=5) (hl:lv≤5):par (decide (lvE t<lv)) v=v:=by
  rw [decide_eq_false (by omega)]; rfl
section
variable {n:Int} {nm mk:List UInt8} {ks:List Tr}
theorem pw_int (h:n.natAbs≤1099511627776):PW (.node 20 n nm mk ks) (numS n):=fun lv hl=>by
  rw [par_at rfl hl]
  refine Ev.step (fun k=>by rw [pexpr_write]) ?_
  exact Ev.dT rfl (Ev.ret (ev_Number1 n h))
def boolS (n:Int):List UInt8:=if n=1 then [116,114,117,101] else [102,97,108,115,101]
theorem pw_bool:PW (.node 21 n nm mk ks) (boolS n):=fun lv hl=>by
  rw [par_at rfl hl]
  refine Ev.step (fun k=>by rw [pexpr_write]) ?_
  refine Ev.dF (by decide) (Ev.dT rfl ?_)
  unfold boolS
  exact Ev.d (fun h=>Ev.pure' (by rw [if_pos h])) (fun h=>Ev.pure' (by rw [if_neg h]))
theorem pw_unit:PW (.node 22 n nm mk ks) [40,32,41]:=fun lv hl=>by
  rw [par_at rfl hl]
  refine Ev.step (fun k=>by rw [pexpr_write]) ?_
  exact Ev.dF (by decide) (Ev.dF (by decide) (Ev.dT rfl Ev.pure))
theorem pw_var:PW (.node 23 n nm mk ks) nm:=fun lv hl=>by
  rw [par_at rfl hl]
  refine Ev.step (fun k=>by rw [pexpr_write]) ?_
  exact Ev.dF (by decide) (Ev.dF (by decide) (Ev.dF (by decide) (Ev.dT rfl Ev.pure)))
variable {x y z:Tr} {vx vy vz:List UInt8}
theorem pw_pair (hx:PW x vx) (hy:PW y vy) (lx:vx.length≤1099511627776) (ly:vy.length≤1099511627776):PW (.node 26 n nm mk [x,y]) ([40,32]++vx++[32,44,32]++vy++[32,41]):=fun lv hl=>by
  rw [par_at rfl hl]
  refine Ev.step (fun k=>by rw [pexpr_write]) ?_
  repeat' first | refine Ev.dT rfl ?_ | refine Ev.dF (by decide) ?_
  refine Ev.bind (pw1 rfl hx.zero) ?_
  refine Ev.opt (catS_ok (by simp; omega)) ?_
  refine Ev.opt (catS_ok (by simp; omega)) ?_
  refine Ev.bind (pw1 rfl hy.zero) ?_
  refine Ev.opt (catS_ok (by simp; omega)) ?_
  exact Ev.opt (catS_ok (by simp; omega)) Ev.pure
theorem pw_fst (hx:PW x vx) (lx:vx.length≤1099511627776):PW (.node 27 n nm mk [x]) ([35,49,32]++par (decide (lvE x<5)) vx):=fun lv hl=>by
  have px:=par_len (decide (lvE x<5)) vx
  rw [par_at rfl hl]
  refine Ev.step (fun k=>by rw [pexpr_write]) ?_
  repeat' first | refine Ev.dT rfl ?_ | refine Ev.dF (by decide) ?_
  refine Ev.bind (pw1 rfl (hx 5 (by decide))) ?_
  exact Ev.opt (catS_ok (by simp; omega)) Ev.pure
theorem pw_snd (hx:PW x vx) (lx:vx.length≤1099511627776):PW (.node 28 n nm mk [x]) ([35,50,32]++par (decide (lvE x<5)) vx):=fun lv hl=>by
  have px:=par_len (decide (lvE x<5)) vx
  rw [par_at rfl hl]
  refine Ev.step (fun k=>by rw [pexpr_write]) ?_
  repeat' first | refine Ev.dT rfl ?_ | refine Ev.dF (by decide) ?_
  refine Ev.bind (pw1 rfl (hx 5 (by decide))) ?_
  exact Ev.opt (catS_ok (by simp; omega)) Ev.pure
theorem pw_app (hx:PW x vx) (hy:PW y vy) (lx:vx.length≤1099511627776) (ly:vy.length≤1099511627776):PW (.node 25 n nm mk [x,y]) (par (decide (lvE x<4)) vx++[32]++par (decide (lvE y<5)) vy):=fun lv hl=>by
  have px:=par_len (decide (lvE x<4)) vx
  have py:=par_len (decide (lvE y<5)) vy
  refine Ev.step (fun k=>by rw [pexpr_write]) ?_
  repeat' first | refine Ev.dT rfl ?_ | refine Ev.dF (by decide) ?_
  refine Ev.bind (pw1 rfl (hx 4 (by decide))) ?_
  refine Ev.opt (catS_ok (by simp; omega)) ?_
  refine Ev.bind (pw1 rfl (hy 5 (by decide))) ?_
  refine Ev.opt (catS_ok (by simp; omega)) ?_
  exact Ev.ret (ev_paren7 _ _ (by simp; omega))
theorem pw_op (hn:1≤n∧n≤5) (hx:PW x vx) (hy:PW y vy) (lx:vx.length≤1099511627776) (ly:vy.length≤1099511627776):PW (.node 31 n nm mk [x,y]) (par (decide (lvE x<lfO n)) vx++sgO n++par (decide (lvE y<lvO n+1)) vy):=fun lv hl=>by
  refine Ev.step (fun k=>by rw [pexpr_write]) ?_
  repeat' first | refine Ev.dT rfl ?_ | refine Ev.dF (by decide) ?_
  refine Ev.ret ?_
  have core:∀ (own lf:Int) (sg:List UInt8),0≤own∧own≤4→lf≤5→sg.length=3→Ev (fun K=>pexpr_writeOp_c0 K (.node 31 n nm mk [x,y]) lv own lf sg) (par (decide (own<lv)) (par (decide (lvE x<lf)) vx++sg++par (decide (lvE y<own+1)) vy)):=by
    intro own lf sg ho hf hs
    have px:=par_len (decide (lvE x<lf)) vx
    have py:=par_len (decide (lvE y<own+1)) vy
    refine Ev.step (fun k=>by rw [pexpr_writeOp_c0]) ?_
    refine Ev.opt (a:=x) rfl ?_
    refine Ev.opt (a:=y) rfl ?_
    refine Ev.bind (hx lf hf) ?_
    refine Ev.opt (catS_ok (by omega)) ?_
    rw [wrap_id (by omega) (by omega)]
    refine Ev.bind (hy (own+1) (by omega)) ?_
    refine Ev.opt (catS_ok (by simp; omega)) ?_
    exact Ev.ret (ev_paren7 _ _ (by simp; omega))
  refine Ev.step (fun k=>by rw [pexpr_writeOp]) ?_
  have h5:n=1∨n=2∨n=3∨n=4∨n=5:=by omega
  rcases h5 with rfl | rfl | rfl | rfl | rfl
  · exact Ev.dT rfl (core 2 2 _ (by decide) (by decide) rfl)
  · exact Ev.dF (by decide) (Ev.dT rfl (core 2 2 _ (by decide) (by decide) rfl))
  · exact Ev.dF (by decide) (Ev.dF (by decide) (Ev.dT rfl (core 3 3 _ (by decide) (by decide) rfl)))
  · exact Ev.dF (by decide) (Ev.dF (by decide) (Ev.dF (by decide) (Ev.dT rfl (core 1 2 _ (by decide) (by decide) rfl))))
  · exact Ev.dF (by decide) (Ev.dF (by decide) (Ev.dF (by decide) (Ev.dF (by decide) (core 1 2 _ (by decide) (by decide) rfl))))
theorem pw_lam (ht:Ev (fun K=>pexpr_written K x) vx) (hy:PW y vy) (ln:nm.length≤1000) (lx:vx.length≤1099511627776) (ly:vy.length≤1099511627776) :
    PW (.node 24 n nm mk [x,y]) ([102,110,32,40,32]++nm++[32,58,32]++vx++[32,41,32,61,62,32]++vy):=fun lv hl=>by
  refine Ev.step (fun k=>by rw [pexpr_write]) ?_
  repeat' first | refine Ev.dT rfl ?_ | refine Ev.dF (by decide) ?_
  refine Ev.opt (catS_ok (by simp; omega)) ?_
  refine Ev.opt (catS_ok (by simp; omega)) ?_
  refine Ev.opt (a:=x) rfl ?_
  refine Ev.bind ht ?_
  refine Ev.opt (catS_ok (by simp; omega)) ?_
  refine Ev.opt (catS_ok (by simp; omega)) ?_
  refine Ev.bind (pw1 rfl hy.zero) ?_
  refine Ev.opt (catS_ok (by simp; omega)) ?_
  exact Ev.ret (ev_paren7 _ _ (by simp; omega))
theorem pw_let (hx:PW x vx) (hy:PW y vy) (ln:nm.length≤1000) (lx:vx.length≤1099511627776) (ly:vy.length≤1099511627776) :
    PW (.node 29 n nm mk [x,y]) ([108,101,116,32]++nm++[32,61,32]++vx++[32,105,110,32]++vy++[32,101,110,100]):=fun lv hl=>by
  refine Ev.step (fun k=>by rw [pexpr_write]) ?_
  repeat' first | refine Ev.dT rfl ?_ | refine Ev.dF (by decide) ?_
  refine Ev.opt (catS_ok (by simp; omega)) ?_
  refine Ev.opt (catS_ok (by simp; omega)) ?_
  refine Ev.bind (pw1 rfl hx.zero) ?_
  refine Ev.opt (catS_ok (by simp; omega)) ?_
  refine Ev.opt (catS_ok (by simp; omega)) ?_
  refine Ev.bind (pw1 rfl hy.zero) ?_
  refine Ev.opt (catS_ok (by simp; omega)) ?_
  refine Ev.opt (catS_ok (by simp; omega)) ?_
  exact Ev.ret (ev_paren7 _ _ (by simp; omega))
theorem pw_if (hx:PW x vx) (hy:PW y vy) (hz:PW z vz) (lx:vx.length≤1099511627776) (ly:vy.length≤1099511627776) (lz:vz.length≤109951162777) :
    PW (.node 30 n nm mk [x,y,z]) ([105,102,32]++vx++[32,116,104,101,110,32]++vy++[32,101,108,115,101,32]++vz):=fun lv hl=>by
  refine Ev.step (fun k=>by rw [pexpr_write]) ?_
  repeat' first | refine Ev.dT rfl ?_ | refine Ev.dF (by decide) ?_
  refine Ev.bind (pw1 rfl hx.zero) ?_
  refine Ev.opt (catS_ok (by simp; omega)) ?_
  refine Ev.opt (catS_ok (by simp; omega)) ?_
  refine Ev.bind (pw1 rfl hy.zero) ?_
  refine Ev.opt (catS_ok (by simp; omega)) ?_
  refine Ev.opt (catS_ok (by simp; omega)) ?_
  refine Ev.bind (pw1 rfl hz.zero) ?_
  refine Ev.opt (catS_ok (by simp; omega)) ?_
  exact Ev.ret (ev_paren7 _ _ (by simp; omega))
abbrev AT:=List UInt8×List UInt8×Tr×List UInt8
def aTr (a:AT):Tr:=.node 34 0 a.1 a.2.1 [a.2.2.1]
def aTx (a:AT):List UInt8:=a.1++[32]++a.2.1++[32,61,62,32]++a.2.2.2
abbrev barA:List UInt8:=[32,124,32]
def AOk (a:AT):Prop:=a.1.length≤1000∧a.2.1.length≤1000∧PW a.2.2.1 a.2.2.2∧a.2.2.2.length≤109951162777
def armsS (L:List AT):List UInt8:=Lib.join (L.map aTx) barA++[32,101,110,100]
theorem ev_arms1 {L:List AT} (hL:∀ a∈L,AOk a) (hn:L.length≤1048576) (hj:(Lib.join (L.map aTx) barA).length≤1099511627776):Ev (fun K=>pexpr_writeArms K (L.map aTr)) (armsS L):=by
  refine Ev.step (fun k=>by rw [pexpr_writeArms]) ?_
  have loop:∀ (m i:Nat),L.length=i+m→Ev (fun K=>pexpr_writeArms_l0 K ((L.map aTx).take i) (L.map aTr) (i:Int)) (armsS L):=by
    intro m
    induction m with
    | zero =>
      intro i hi
      rw [List.take_of_length_le (by simp; omega)]
      refine Ev.step (fun k=>by rw [pexpr_writeArms_l0]) ?_
      refine Ev.dF (by simp; omega) (Ev.bind (a:=Lib.join (L.map aTx) barA) ⟨0,fun K _=>?_⟩ ?_)
      · show (if _ then _ else _)=_
        rw [if_pos ⟨by have:(Lib.join (L.map aTx) [32,124,32]).length≤1099511627776:=hj; omega,by simp; omega⟩]
      · exact Ev.opt (catS_ok (by simp; omega)) Ev.pure
    | succ m ih =>
      intro i hi
      have hlt:i<L.length:=by omega
      have hx:i<(L.map aTx).length:=by simp; omega
      have hr:i<(L.map aTr).length:=by simp; omega
      obtain ⟨o1,o2,o3,o4⟩:=hL _ (List.getElem_mem hlt)
      refine Ev.step (fun k=>by rw [pexpr_writeArms_l0]) ?_
      refine Ev.dT (by omega) (Ev.opt (getI_lt hr) ?_)
      rw [List.getElem_map]
      show Ev (fun K=>(Am.catS L[i].1 [32]).bind fun v8=>((Am.catS v8 L[i].2.1).bind fun v9=>((Am.catS v9 ([32,61,62,32]:List UInt8)).bind fun v10=>((getI [L[i].2.2.1] 0).bind fun v11=>((pexpr_write K v11 0).bind fun v12=>((Am.catS v10 v12).bind fun v13=>((appL 16 ((L.map aTx).take i) ([v13]:List (List UInt8))).bind fun v14=>(pexpr_writeArms_l0 K v14 (L.map aTr) (IntKind.i64.wrap ((i:Int)+1)))))))))) _
      refine Ev.opt (catS_ok (by simp; omega)) ?_
      refine Ev.opt (catS_ok (by simp; omega)) ?_
      refine Ev.opt (catS_ok (by simp; omega)) ?_
      refine Ev.opt (a:=L[i].2.2.1) rfl ?_
      refine Ev.bind o3.zero ?_
      refine Ev.opt (catS_ok (by simp; omega)) ?_
      refine Ev.opt (appL_ok (by simp; omega)) ?_
      rw [wrap_nat (by omega)]
      have:=ih (i+1) (by omega)
      rw [take_get' hx,List.getElem_map] at this
      exact this
  have:=loop L.length 0 (by omega)
  simpa using this
theorem pw_case {L:List AT} (hx:PW x vx) (lx:vx.length≤1099511627776) (hL:∀ a∈L,AOk a) (hn:L.length≤1048576) (hj:(Lib.join (L.map aTx) barA).length≤1099511627776) :
    PW (.node 32 n nm mk (x :: L.map aTr)) ([99,97,115,101,32]++vx++[32,111,102,32]++armsS L):=fun lv hl=>by
  have ha:(armsS L).length≤1099511627780:=by unfold armsS; simp; omega
  refine Ev.step (fun k=>by rw [pexpr_write]) ?_
  repeat' first | refine Ev.dT rfl ?_ | refine Ev.dF (by decide) ?_
  have e:=subL_ok (l:=x :: L.map aTr) (a:=1) (b:=(x :: L.map aTr).length) (by simp) (Nat.le_refl _)
  rw [List.take_length,List.drop_succ_cons,List.drop_zero] at e
  refine Ev.opt e ?_
  refine Ev.bind (pw1 rfl hx.zero) ?_
  refine Ev.opt (catS_ok (by simp; omega)) ?_
  refine Ev.opt (catS_ok (by simp; omega)) ?_
  refine Ev.bind (ev_arms1 hL hn hj) ?_
  refine Ev.opt (catS_ok (by simp; omega)) ?_
  exact Ev.ret (ev_paren7 _ _ (by simp; omega))
theorem pw_fold {L:List AT} (hx:PW x vx) (lx:vx.length≤1099511627776) (ht:Ev (fun K=>pexpr_written K y) vy) (ly:vy.length≤1099511627776) (hL:∀ a∈L,AOk a) (hn:L.length≤1048576) (hj:(Lib.join (L.map aTx) barA).length≤1099511627776) :
    PW (.node 33 n nm mk (x :: y :: L.map aTr)) ([102,111,108,100,32]++vx++[32,116,111,32]++vy++[32,111,102,32]++armsS L):=fun lv hl=>by
  have ha:(armsS L).length≤1099511627780:=by unfold armsS; simp; omega
  refine Ev.step (fun k=>by rw [pexpr_write]) ?_
  repeat' first | refine Ev.dF (by decide) ?_
  refine Ev.opt (a:=y) rfl ?_
  have e:=subL_ok (l:=x :: y :: L.map aTr) (a:=2) (b:=(x :: y :: L.map aTr).length) (by simp) (Nat.le_refl _)
  rw [List.take_length,List.drop_succ_cons,List.drop_succ_cons,List.drop_zero] at e
  refine Ev.opt e ?_
  refine Ev.bind (pw1 rfl hx.zero) ?_
  refine Ev.opt (catS_ok (by simp; omega)) ?_
  refine Ev.opt (catS_ok (by simp; omega)) ?_
  refine Ev.bind ht ?_
  refine Ev.opt (catS_ok (by simp; omega)) ?_
  refine Ev.opt (catS_ok (by simp; omega)) ?_
  refine Ev.bind (ev_arms1 hL hn hj) ?_
  refine Ev.opt (catS_ok (by simp; omega)) ?_
  exact Ev.ret (ev_paren7 _ _ (by simp; omega))
end
end Go.Proofs.YtjhfgiieicloeaaGreatDoor

/- The document's writer of expressions, form by form. -/
namespace Go.Proofs.YtjhfgiieicloeaaGreatDoor
open Go Go.Am Go.Sx
def RW (t:Tr) (v:List UInt8):Prop:=(∃ k n nm mk ks,t=.node k n nm mk ks)∧Ev (fun K=>ref07_Text K t) v
theorem ev_level (k n:Int) (nm mk:List UInt8) (ks:List Tr):Ev (fun K=>ref07_level K (.node k n nm mk ks)) (lvE (.node k n nm mk ks)):=by
  refine Ev.congr (f:=fun K=>_) ?_ (fun k=>by rw [ref07_level])
  unfold lvE lvO
  simp only []
  refine Ev.d (fun h=>Ev.pure' (by rw [if_pos h])) (fun h=>?_)
  rw [if_neg h]
  refine Ev.d (fun h=>Ev.pure' (by rw [if_pos h])) (fun h=>?_)
  rw [if_neg h]
  refine Ev.d (fun h=>Ev.pure' (by rw [if_pos h])) (fun h=>?_)
  rw [if_neg h]
  refine Ev.d (fun h=>Ev.pure' (by rw [if_pos h])) (fun h=>?_)
  rw [if_neg h]
  refine Ev.d (fun h=>Ev.pure' (by rw [if_pos h])) (fun h=>?_)
  rw [if_neg h]
  refine Ev.d (fun h=>Ev.pure' (by rw [if_pos h])) (fun h=>?_)
  rw [if_neg h]
  refine Ev.d (fun h=>?_) (fun h=>Ev.pure' (by rw [if_neg h]))
  rw [if_pos h]
  refine Ev.d (fun h=>Ev.pure' (by rw [if_pos h])) (fun h=>?_)
  rw [if_neg h]
  exact Ev.d (fun h=>Ev.pure' (by rw [if_pos h])) (fun h=>Ev.pure' (by rw [if_neg h]))
theorem RW.at_ {t:Tr} {v:List UInt8} (h:RW t v) (lv:Int) (l:v.length≤1099511627776):Ev (fun K=>ref07_at K t lv) (par (decide (lvE t<lv)) v):=by
  obtain ⟨⟨k,n,nm,mk,ks,rfl⟩,h⟩:=h
  refine Ev.step (fun k=>by rw [ref07_at]) ?_
  refine Ev.bind (ev_level ..) ?_
  refine Ev.d (fun e=>?_) (fun e=>?_)
  · rw [decide_eq_true e]
    refine Ev.bind h ?_
    refine Ev.opt (catS_ok (by simp; omega)) ?_
    exact Ev.opt (catS_ok (by simp; omega)) Ev.pure
  · rw [decide_eq_false e]
    exact Ev.ret h
section
variable {n:Int} {nm mk:List UInt8} {ks:List Tr}
theorem rw_int (h:n.natAbs≤1099511627776):RW (.node 20 n nm mk ks) (numS n):=by
  refine ⟨⟨_,_,_,_,_,rfl⟩,Ev.step (fun k=>by rw [ref07_Text]) ?_⟩
  exact Ev.dT rfl (Ev.ret (ev_Number2 n.natAbs n (Nat.le_refl _) h))
theorem rw_bool:RW (.node 21 n nm mk ks) (boolS n):=by
  refine ⟨⟨_,_,_,_,_,rfl⟩,Ev.step (fun k=>by rw [ref07_Text]) ?_⟩
  refine Ev.dF (by decide) (Ev.dT rfl ?_)
  unfold boolS
  exact Ev.d (fun h=>Ev.pure' (by rw [if_pos h])) (fun h=>Ev.pure' (by rw [if_neg h]))
theorem rw_unit:RW (.node 22 n nm mk ks) [40,32,41]:=by
  refine ⟨⟨_,_,_,_,_,rfl⟩,Ev.step (fun k=>by rw [ref07_Text]) ?_⟩
  exact Ev.dF (by decide) (Ev.dF (by decide) (Ev.dT rfl Ev.pure))
theorem rw_var:RW (.node 23 n nm mk ks) nm:=by
  refine ⟨⟨_,_,_,_,_,rfl⟩,Ev.step (fun k=>by rw [ref07_Text]) ?_⟩
  exact Ev.dF (by decide) (Ev.dF (by decide) (Ev.dF (by decide) (Ev.dT rfl Ev.pure)))
variable {x y z:Tr} {vx vy vz:List UInt8}
theorem rw_pair (hx:RW x vx) (hy:RW y vy) (lx:vx.length≤1099511627776) (ly:vy.length≤1099511627776):RW (.node 26 n nm mk [x,y]) ([40,32]++vx++[32,44,32]++vy++[32,41]):=by
  refine ⟨⟨_,_,_,_,_,rfl⟩,Ev.step (fun k=>by rw [ref07_Text]) ?_⟩
  repeat' first | refine Ev.dT rfl ?_ | refine Ev.dF (by decide) ?_
  refine Ev.opt (a:=x) rfl ?_
  refine Ev.opt (a:=y) rfl ?_
  refine Ev.bind hx.2 ?_
  refine Ev.opt (catS_ok (by simp; omega)) ?_
  refine Ev.opt (catS_ok (by simp; omega)) ?_
  refine Ev.bind hy.2 ?_
  refine Ev.opt (catS_ok (by simp; omega)) ?_
  exact Ev.opt (catS_ok (by simp; omega)) Ev.pure
theorem rw_fst (hx:RW x vx) (lx:vx.length≤1099511627776):RW (.node 27 n nm mk [x]) ([35,49,32]++par (decide (lvE x<5)) vx):=by
  have px:=par_len (decide (lvE x<5)) vx
  refine ⟨⟨_,_,_,_,_,rfl⟩,Ev.step (fun k=>by rw [ref07_Text]) ?_⟩
  repeat' first | refine Ev.dT rfl ?_ | refine Ev.dF (by decide) ?_
  refine Ev.opt (a:=x) rfl ?_
  refine Ev.bind (hx.at_ 5 lx) ?_
  exact Ev.opt (catS_ok (by simp; omega)) Ev.pure
theorem rw_snd (hx:RW x vx) (lx:vx.length≤1099511627776):RW (.node 28 n nm mk [x]) ([35,50,32]++par (decide (lvE x<5)) vx):=by
  have px:=par_len (decide (lvE x<5)) vx
  refine ⟨⟨_,_,_,_,_,rfl⟩,Ev.step (fun k=>by rw [ref07_Text]) ?_⟩
  repeat' first | refine Ev.dT rfl ?_ | refine Ev.dF (by decide) ?_
  refine Ev.opt (a:=x) rfl ?_
  refine Ev.bind (hx.at_ 5 lx) ?_
  exact Ev.opt (catS_ok (by simp; omega)) Ev.pure
theorem rw_app (hx:RW x vx) (hy:RW y vy) (lx:vx.length≤1099511627776) (ly:vy.length≤1099511627776):RW (.node 25 n nm mk [x,y]) (par (decide (lvE x<4)) vx++[32]++par (decide (lvE y<5)) vy):=by
  have px:=par_len (decide (lvE x<4)) vx
  have py:=par_len (decide (lvE y<5)) vy
  refine ⟨⟨_,_,_,_,_,rfl⟩,Ev.step (fun k=>by rw [ref07_Text]) ?_⟩
  repeat' first | refine Ev.dT rfl ?_ | refine Ev.dF (by decide) ?_
  refine Ev.opt (a:=x) rfl ?_
  refine Ev.opt (a:=y) rfl ?_
  refine Ev.bind (hx.at_ 4 lx) ?_
  refine Ev.opt (catS_ok (by simp; omega)) ?_
  refine Ev.bind (hy.at_ 5 ly) ?_
  exact Ev.opt (catS_ok (by simp; omega)) Ev.pure
theorem rw_op (hn:1≤n∧n≤5) (hx:RW x vx) (hy:RW y vy) (lx:vx.length≤1099511627776) (ly:vy.length≤1099511627776):RW (.node 31 n nm mk [x,y]) (par (decide (lvE x<lfO n)) vx++sgO n++par (decide (lvE y<lvO n+1)) vy):=by
  refine ⟨⟨_,_,_,_,_,rfl⟩,Ev.step (fun k=>by rw [ref07_Text]) ?_⟩
  repeat' first | refine Ev.dT rfl ?_ | refine Ev.dF (by decide) ?_
  have e:lvE (.node 31 n nm mk [x,y])=lvO n:=rfl
  have lo:1≤lvO n∧lvO n≤3:=by unfold lvO; (repeat' split) <;> omega
  have core:∀ lf:Int,lf=lfO n→Ev (fun K=>ref07_Text_c0 K (.node 31 n nm mk [x,y]) [x,y] (lvO n) lf) (par (decide (lvE x<lfO n)) vx++sgO n++par (decide (lvE y<lvO n+1)) vy):=by
    rintro lf rfl
    have px:=par_len (decide (lvE x<lfO n)) vx
    have py:=par_len (decide (lvE y<lvO n+1)) vy
    have sl:=sgO_len n
    refine Ev.step (fun k=>by rw [ref07_Text_c0]) ?_
    refine Ev.opt (a:=x) rfl ?_
    have sg:getI ([([]:List UInt8),([32,43,32]:List UInt8),([32,45,32]:List UInt8),([32,42,32]:List UInt8),([32,61,32]:List UInt8),([32,60,32]:List UInt8)]:List (List UInt8)) n=some (sgO n):=by
      have h5:n=1∨n=2∨n=3∨n=4∨n=5:=by omega
      rcases h5 with rfl | rfl | rfl | rfl | rfl <;> rfl
    refine Ev.opt sg ?_
    refine Ev.opt (a:=y) rfl ?_
    refine Ev.bind (hx.at_ _ lx) ?_
    refine Ev.opt (catS_ok (by omega)) ?_
    rw [wrap_id (by omega) (by omega)]
    refine Ev.bind (hy.at_ _ ly) ?_
    exact Ev.opt (catS_ok (by simp; omega)) Ev.pure
  have hlv:=ev_level 31 n nm mk [x,y]
  rw [e] at hlv
  refine Ev.bind hlv ?_
  have h5:n=1∨n=2∨n=3∨n=4∨n=5:=by omega
  refine Ev.d (fun h=>core 2 ?_) (fun h=>core _ ?_)
  · rcases h5 with rfl | rfl | rfl | rfl | rfl <;> first | rfl | exact absurd h (by decide)
  · rcases h5 with rfl | rfl | rfl | rfl | rfl <;> first | rfl | exact absurd (by decide) h
theorem rw_lam (ht:Ev (fun K=>ref06_Text K x) vx) (hy:RW y vy) (ln:nm.length≤1000) (lx:vx.length≤1099511627776) (ly:vy.length≤1099511627776) :
    RW (.node 24 n nm mk [x,y]) ([102,110,32,40,32]++nm++[32,58,32]++vx++[32,41,32,61,62,32]++vy):=by
  refine ⟨⟨_,_,_,_,_,rfl⟩,Ev.step (fun k=>by rw [ref07_Text]) ?_⟩
  repeat' first | refine Ev.dT rfl ?_ | refine Ev.dF (by decide) ?_
  refine Ev.opt (catS_ok (by simp; omega)) ?_
  refine Ev.opt (catS_ok (by simp; omega)) ?_
  refine Ev.opt (a:=x) rfl ?_
  refine Ev.opt (a:=y) rfl ?_
  refine Ev.bind ht ?_
  refine Ev.opt (catS_ok (by simp; omega)) ?_
  refine Ev.opt (catS_ok (by simp; omega)) ?_
  refine Ev.bind hy.2 ?_
  exact Ev.opt (catS_ok (by simp; omega)) Ev.pure
theorem rw_let (hx:RW x vx) (hy:RW y vy) (ln:nm.length≤1000) (lx:vx.length≤1099511627776) (ly:vy.length≤1099511627776) :
    RW (.node 29 n nm mk [x,y]) ([108,101,116,32]++nm++[32,61,32]++vx++[32,105,110,32]++vy++[32,101,110,100]):=by
  refine ⟨⟨_,_,_,_,_,rfl⟩,Ev.step (fun k=>by rw [ref07_Text]) ?_⟩
  repeat' first | refine Ev.dT rfl ?_ | refine Ev.dF (by decide) ?_
  refine Ev.opt (catS_ok (by simp; omega)) ?_
  refine Ev.opt (catS_ok (by simp; omega)) ?_
  refine Ev.opt (a:=x) rfl ?_
  refine Ev.opt (a:=y) rfl ?_
  refine Ev.bind hx.2 ?_
  refine Ev.opt (catS_ok (by simp; omega)) ?_
  refine Ev.opt (catS_ok (by simp; omega)) ?_
  refine Ev.bind hy.2 ?_
  refine Ev.opt (catS_ok (by simp; omega)) ?_
  exact Ev.opt (catS_ok (by simp; omega)) Ev.pure
theorem rw_if (hx:RW x vx) (hy:RW y vy) (hz:RW z vz) (lx:vx.length≤1099511627776) (ly:vy.length≤1099511627776) (lz:vz.length≤109951162777) :
    RW (.node 30 n nm mk [x,y,z]) ([105,102,32]++vx++[32,116,104,101,110,32]++vy++[32,101,108,115,101,32]++vz):=by
  refine ⟨⟨_,_,_,_,_,rfl⟩,Ev.step (fun k=>by rw [ref07_Text]) ?_⟩
  repeat' first | refine Ev.dT rfl ?_ | refine Ev.dF (by decide) ?_
  refine Ev.opt (a:=x) rfl ?_
  refine Ev.opt (a:=y) rfl ?_
  refine Ev.opt (a:=z) rfl ?_
  refine Ev.bind hx.2 ?_
  refine Ev.opt (catS_ok (by simp; omega)) ?_
  refine Ev.opt (catS_ok (by simp; omega)) ?_
  refine Ev.bind hy.2 ?_
  refine Ev.opt (catS_ok (by simp; omega)) ?_
  refine Ev.opt (catS_ok (by simp; omega)) ?_
  refine Ev.bind hz.2 ?_
  exact Ev.opt (catS_ok (by simp; omega)) Ev.pure
def jB (l:List (List UInt8)):List UInt8:=Lib.join l barA
theorem jB_snoc (l:List (List UInt8)) (c:List UInt8):jB (l++[c])=if l=[] then c else jB l++barA++c:=by
  unfold jB
  cases l with
  | nil=>rw [List.nil_append,Lib.join_one,if_pos rfl]
  | cons x r =>
    rw [List.cons_append,Lib.join_cons,Lib.join_cons,if_neg (by simp)]
    simp [Lib.joinTail]
theorem tail_take (l:List (List UInt8)) (i:Nat):(Lib.joinTail barA (l.take i)).length≤(Lib.joinTail barA l).length:=by
  induction l generalizing i with
  | nil=>simp
  | cons x r ih =>
    cases i with
    | zero=>simp [Lib.joinTail]
    | succ i =>
      have:=ih i
      rw [List.take_succ_cons]
      have e:∀ (r:List (List UInt8)),Lib.joinTail barA (x :: r)=barA++x++Lib.joinTail barA r:=fun r=>by simp [Lib.joinTail]
      rw [e,e]
      simp only [List.length_append]
      omega
theorem jB_take (l:List (List UInt8)) (i:Nat):(jB (l.take i)).length≤(jB l).length:=by
  unfold jB
  cases l with
  | nil=>simp
  | cons x r =>
    cases i with
    | zero=>rw [List.take_zero,Lib.join_nil]; simp
    | succ i =>
      rw [List.take_succ_cons,Lib.join_cons,Lib.join_cons]
      have:=tail_take r i
      simp only [List.length_append]
      omega
def ROk (a:AT):Prop:=a.1.length≤1000∧a.2.1.length≤1000∧RW a.2.2.1 a.2.2.2∧a.2.2.2.length≤109951162777
theorem ev_arms2 {L:List AT} (hL:∀ a∈L,ROk a) (hn:L.length≤1048576) (hj:(jB (L.map aTx)).length≤1099511627776):Ev (fun K=>ref07_armsText K (L.map aTr)) (armsS L):=by
  refine Ev.step (fun k=>by rw [ref07_armsText]) ?_
  have loop:∀ (m i:Nat),L.length=i+m→Ev (fun K=>ref07_armsText_l0 K (L.map aTr) (jB ((L.map aTx).take i)) (i:Int)) (armsS L):=by
    intro m
    induction m with
    | zero =>
      intro i hi
      rw [List.take_of_length_le (by simp; omega)]
      refine Ev.step (fun k=>by rw [ref07_armsText_l0]) ?_
      exact Ev.dF (by simp; omega) (Ev.opt (catS_ok (by simp; omega)) Ev.pure)
    | succ m ih =>
      intro i hi
      have hlt:i<L.length:=by omega
      have hx:i<(L.map aTx).length:=by simp; omega
      have hr:i<(L.map aTr).length:=by simp; omega
      have hg:getI (L.map aTr) (i:Int)=some (aTr L[i]):=by rw [getI_lt hr,List.getElem_map]
      obtain ⟨o1,o2,o3,o4⟩:=hL _ (List.getElem_mem hlt)
      have ht:=jB_take (L.map aTx) i
      have sn:=jB_snoc ((L.map aTx).take i) (L.map aTx)[i]
      rw [← take_get' hx] at sn
      have c0:∀ s:List UInt8,s.length≤1099511627790→s++(L.map aTx)[i]=jB ((L.map aTx).take (i+1))→Ev (fun K=>ref07_armsText_c0 K (L.map aTr) s (i:Int)) (armsS L):=fun s hs he=>by
        refine Ev.step (fun k=>by rw [ref07_armsText_c0]) ?_
        refine Ev.opt hg ?_
        refine Ev.opt (catS_ok (by omega)) ?_
        refine Ev.opt (catS_ok (by simp; omega)) ?_
        refine Ev.opt hg ?_
        refine Ev.opt (catS_ok (by simp; omega)) ?_
        refine Ev.opt (catS_ok (by simp; omega)) ?_
        refine Ev.opt hg ?_
        refine Ev.opt (a:=L[i].2.2.1) rfl ?_
        refine Ev.bind o3.2 ?_
        refine Ev.opt (catS_ok (by simp; omega)) ?_
        rw [wrap_nat (by omega)]
        have:=ih (i+1) (by omega)
        rw [← he,List.getElem_map] at this
        simpa [aTx] using this
      refine Ev.step (fun k=>by rw [ref07_armsText_l0]) ?_
      refine Ev.dT (by omega) ?_
      refine Ev.d (fun h=>?_) (fun h=>?_)
      · refine Ev.opt (catS_ok (by simp; omega)) ?_
        refine c0 _ (by simp; omega) ?_
        have hne:(L.map aTx).take i≠[]:=fun e=>by
          have:((L.map aTx).take i).length=0:=by rw [e]; rfl
          rw [List.length_take] at this
          omega
        rw [sn,if_neg hne]
      · have e:i=0:=by omega
        subst e
        refine c0 _ (by omega) ?_
        rw [sn]; simp [jB,Lib.join_nil]
  have:=loop L.length 0 (by omega)
  simpa [jB,Lib.join_nil] using this
theorem rw_case {L:List AT} (hx:RW x vx) (lx:vx.length≤1099511627776) (hL:∀ a∈L,ROk a) (hn:L.length≤1048576) (hj:(Lib.join (L.map aTx) barA).length≤1099511627776) :
    RW (.node 32 n nm mk (x :: L.map aTr)) ([99,97,115,101,32]++vx++[32,111,102,32]++armsS L):=by
  have ha:(armsS L).length≤1099511627780:=by unfold armsS; simp; omega
  refine ⟨⟨_,_,_,_,_,rfl⟩,Ev.step (fun k=>by rw [ref07_Text]) ?_⟩
  repeat' first | refine Ev.dT rfl ?_ | refine Ev.dF (by decide) ?_
  refine Ev.opt (a:=x) rfl ?_
  have e:=subL_ok (l:=x :: L.map aTr) (a:=1) (b:=(x :: L.map aTr).length) (by simp) (Nat.le_refl _)
  rw [List.take_length,List.drop_succ_cons,List.drop_zero] at e
  refine Ev.opt e ?_
  refine Ev.bind hx.2 ?_
  refine Ev.opt (catS_ok (by simp; omega)) ?_
  refine Ev.opt (catS_ok (by simp; omega)) ?_
  refine Ev.bind (ev_arms2 hL hn hj) ?_
  exact Ev.opt (catS_ok (by simp; omega)) Ev.pure
theorem rw_fold {L:List AT} (hx:RW x vx) (lx:vx.length≤1099511627776) (ht:Ev (fun K=>ref06_Text K y) vy) (ly:vy.length≤1099511627776) (hL:∀ a∈L,ROk a) (hn:L.length≤1048576) (hj:(Lib.join (L.map aTx) barA).length≤1099511627776) :
    RW (.node 33 n nm mk (x :: y :: L.map aTr)) ([102,111,108,100,32]++vx++[32,116,111,32]++vy++[32,111,102,32]++armsS L):=by
  have ha:(armsS L).length≤1099511627780:=by unfold armsS; simp; omega
  refine ⟨⟨_,_,_,_,_,rfl⟩,Ev.step (fun k=>by rw [ref07_Text]) ?_⟩
  repeat' first | refine Ev.dF (by decide) ?_
  refine Ev.opt (a:=x) rfl ?_
  refine Ev.opt (a:=y) rfl ?_
  have e:=subL_ok (l:=x :: y :: L.map aTr) (a:=2) (b:=(x :: y :: L.map aTr).length) (by simp) (Nat.le_refl _)
  rw [List.take_length,List.drop_succ_cons,List.drop_succ_cons,List.drop_zero] at e
  refine Ev.opt e ?_
  refine Ev.bind hx.2 ?_
  refine Ev.opt (catS_ok (by simp; omega)) ?_
  refine Ev.opt (catS_ok (by simp; omega)) ?_
  refine Ev.bind ht ?_
  refine Ev.opt (catS_ok (by simp; omega)) ?_
  refine Ev.opt (catS_ok (by simp; omega)) ?_
  refine Ev.bind (ev_arms2 hL hn hj) ?_
  exact Ev.opt (catS_ok (by simp; omega)) Ev.pure
end
end Go.Proofs.YtjhfgiieicloeaaGreatDoor

/- Types as texts, part 1: what the program writes is what the document writes. -/
namespace Go.Proofs.YtjhfgiieicloeaaGreatDoor
open Go Go.Am Go.Sx

def need (t:Tr) (level:Int):Bool:=(decide (kindOf t=5) && decide (0<level)) || (decide (kindOf t=6) && decide (1<level))
theorem need0 (t:Tr):need t 0=false:=by simp [need]
theorem need1 (t:Tr):need t 1=decide (kindOf t=5):=by simp [need]
theorem need2 (t:Tr):need t 2=(decide (kindOf t=5) || decide (kindOf t=6)):=by simp [need]
def Txt (t:Tr) (v:List UInt8):Prop:=(∀ level:Int,Ev (fun K=>ptype_write K t level) (par (need t level) v))∧Ev (fun K=>ref06_Text K t) v∧v.length≤200 * t.w∧v≠[]
theorem ev_paren (b:Bool) (s:List UInt8) (hs:s.length≤1099511627776):Ev (fun K=>ptype_paren K b s) (par b s):=by
  refine Ev.congr (f:=fun K=>_) ?_ (fun k=>by rw [ptype_paren])
  unfold par
  cases b
  · exact Ev.isF rfl Ev.pure
  · exact Ev.isT rfl (Ev.opt (catS_ok (by simp; omega)) (Ev.opt (catS_ok (by simp; omega)) Ev.pure))
theorem ev_within (t:Tr) (b:Bool) (v:List UInt8) (h:Ev (fun K=>ref06_Text K t) v) (hs:v.length≤1099511627776):Ev (fun K=>ref06_within K t b) (par b v):=by
  refine Ev.step (fun k=>by rw [ref06_within]) ?_
  unfold par
  cases b
  · exact Ev.isF rfl (Ev.ret h)
  · exact Ev.isT rfl (Ev.bind h (Ev.opt (catS_ok (by simp; omega)) (Ev.opt (catS_ok (by simp; omega)) Ev.pure)))
def Con (x:Tr) (c:List UInt8):Prop:=∃ k n nm mk y v,x=.node k n nm mk [y]∧(∀ level:Int,Ev (fun K=>ptype_write K y level) (par (need y level) v))∧Ev (fun K=>ref06_Text K y) v ∧
  c=nm++[32,111,102,32]++v∧nm.length≤32∧v.length≤200 * y.w
inductive Cons2:List Tr→List (List UInt8)→Prop
  | nil:Cons2 [] []
  | cons {x c ks L} (h:Con x c) (t:Cons2 ks L):Cons2 (x :: ks) (c :: L)
theorem Con.len {x:Tr} {c:List UInt8} (h:Con x c):c.length+3≤200 * x.w:=by
  obtain ⟨k,n,nm,mk,y,v,rfl,_,_,rfl,h1,h2⟩:=h
  rw [w_node,wL_cons,wL_nil]
  simp; omega
theorem Cons2.len {ks:List Tr} {L:List (List UInt8)} (h:Cons2 ks L):L.length=ks.length:=by
  induction h with
  | nil=>rfl
  | cons _ _ ih=>simp [ih]
theorem Cons2.get {ks:List Tr} {L:List (List UInt8)} (h:Cons2 ks L):∀ (i:Nat) (h1:i<ks.length) (h2:i<L.length),Con ks[i] L[i]:=by
  induction h with
  | nil=>intro i h1; simp at h1
  | cons hc _ ih =>
    intro i h1 h2
    cases i with
    | zero=>exact hc
    | succ i=>exact ih i (by simpa using h1) (by simpa using h2)
abbrev bar:List UInt8:=[32,124,32]
theorem Cons2.tail {ks:List Tr} {L:List (List UInt8)} (h:Cons2 ks L):(Lib.joinTail bar L).length≤200 * wL ks:=by
  induction h with
  | nil=>simp [Lib.joinTail]
  | @cons x c ks L hc _ ih =>
    have h1:=hc.len
    rw [wL_cons]
    have:Lib.joinTail bar (c :: L)=bar++c++Lib.joinTail bar L:=by simp [Lib.joinTail]
    rw [this]
    simp only [List.length_append,List.length_cons,List.length_nil]
    omega
theorem Cons2.join {ks:List Tr} {L:List (List UInt8)} (h:Cons2 ks L):(Lib.join L bar).length≤200 * wL ks:=by
  cases h with
  | nil=>simp [Lib.join_nil]
  | @cons x c ks L hc ht =>
    rw [Lib.join_cons,wL_cons,List.length_append]
    have h1:=hc.len
    have h2:=ht.tail
    omega
theorem join_snoc (l:List (List UInt8)) (c:List UInt8):Lib.join (l++[c]) bar=if l=[] then c else Lib.join l bar++bar++c:=by
  cases l with
  | nil=>rw [List.nil_append,Lib.join_one,if_pos rfl]
  | cons x r =>
    rw [List.cons_append,Lib.join_cons,Lib.join_cons,if_neg (by simp)]
    simp [Lib.joinTail]
theorem join_take_len {ks:List Tr} {L:List (List UInt8)} (h:Cons2 ks L) (i:Nat):(Lib.join (L.take i) bar).length≤200 * wL ks:=by
  have gen:∀ (i:Nat),Cons2 (ks.take i) (L.take i):=by
    induction h with
    | nil=>intro i; simp; exact .nil
    | cons hc _ ih =>
      intro i
      cases i with
      | zero=>exact .nil
      | succ i=>exact .cons hc (ih i)
  have h1:=(gen i).join
  have h2:=wL_append (ks.take i) (ks.drop i)
  rw [List.take_append_drop] at h2
  omega

section
variable {k n:Int} {nm mk:List UInt8} {ks:List Tr} {L:List (List UInt8)} (hc:Cons2 ks L) (hw:wL ks≤1048576) (hnm:nm.length≤32)
include hc hw hnm
theorem ev_mu_write:∀ (m i:Nat),ks.length=i+m→Ev (fun K=>ptype_write_l0 K (.node k n nm mk ks) (L.take i) ks (i:Int)) ([109,117,32]++nm++[32,123,32]++Lib.join L bar++[32,125]):=by
  have hl:=wL_len ks
  have hlen:=hc.len
  intro m
  induction m with
  | zero =>
    intro i hi
    have hj:(Lib.join L [32,124,32]).length≤200 * wL ks:=hc.join
    have hj':=hc.join
    rw [List.take_of_length_le (by omega)]
    refine Ev.step (fun k=>by rw [ptype_write_l0]) ?_
    refine Ev.dF (by omega) (Ev.opt (catS_ok (by simp; omega)) (Ev.opt (catS_ok (by simp; omega)) (Ev.bind (a:=Lib.join L bar) ⟨0,fun K _=>?_⟩ (Ev.opt (catS_ok (by simp; omega)) (Ev.opt (catS_ok (by simp; omega)) Ev.pure)))))
    show (if _ then _ else _)=_
    rw [if_pos ⟨by omega,by omega⟩]
  | succ m ih =>
    intro i hi
    have hlt:i<ks.length:=by omega
    have hlt':i<L.length:=by omega
    obtain ⟨k',n',nm',mk',y,v,e1,e2,_,e4,e5,e6⟩:=hc.get i hlt hlt'
    have hx:=wL_mem (List.getElem_mem hlt)
    rw [e1,w_node,wL_cons,wL_nil] at hx
    refine Ev.step (fun k=>by rw [ptype_write_l0]) ?_
    refine Ev.dT (by omega) (Ev.opt (getI_lt hlt) ?_)
    rw [e1]
    have w0:=e2 0
    rw [need0] at w0
    refine Ev.opt (catS_ok (by simp; omega)) (Ev.opt (a:=y) rfl (Ev.bind w0 (Ev.opt (catS_ok (by simp [par]; omega)) (Ev.opt (appL_ok (by simp; omega)) ?_))))
    rw [wrap_nat (by omega)]
    have:=ih (i+1) (by omega)
    rw [take_get' hlt',e4] at this
    exact this
theorem ev_mu_text:∀ (m i:Nat),ks.length=i+m→Ev (fun K=>ref06_Text_l0 K (.node k n nm mk ks) ([109,117,32]++nm++[32,123,32]++Lib.join (L.take i) bar) (i:Int)) ([109,117,32]++nm++[32,123,32]++Lib.join L bar++[32,125]):=by
  have hl:=wL_len ks
  have hlen:=hc.len
  intro m
  induction m with
  | zero =>
    intro i hi
    have hj:=hc.join
    rw [List.take_of_length_le (by omega)]
    refine Ev.step (fun k=>by rw [ref06_Text_l0]) ?_
    exact Ev.dF (by omega) (Ev.opt (catS_ok (by simp; omega)) Ev.pure)
  | succ m ih =>
    intro i hi
    have hlt:i<ks.length:=by omega
    have hlt':i<L.length:=by omega
    have hj:=join_take_len hc i
    obtain ⟨k',n',nm',mk',y,v,e1,_,e3,e4,e5,e6⟩:=hc.get i hlt hlt'
    have hx:=wL_mem (List.getElem_mem hlt)
    have hg:=getI_lt hlt
    rw [e1] at hg
    rw [e1,w_node,wL_cons,wL_nil] at hx
    have c1:∀ s:List UInt8,s.length≤1099511627776→s++L[i]=[109,117,32]++nm++[32,123,32]++Lib.join (L.take (i+1)) bar→Ev (fun K=>ref06_Text_c1 K (.node k n nm mk ks) s (i:Int)) ([109,117,32]++nm++[32,123,32]++Lib.join L bar++[32,125]):=fun s hs he=>by
      refine Ev.step (fun k=>by rw [ref06_Text_c1]) ?_
      refine Ev.opt hg (Ev.opt (catS_ok (by omega)) (Ev.opt (catS_ok (by simp; omega)) (Ev.opt hg (Ev.opt (a:=y) rfl (Ev.bind e3 (Ev.opt (catS_ok (by simp; omega)) ?_))))))
      rw [wrap_nat (by omega)]
      have:=ih (i+1) (by omega)
      rw [← he,e4] at this
      simpa using this
    have sn:=join_snoc (L.take i) L[i]
    rw [← take_get' hlt'] at sn
    refine Ev.step (fun k=>by rw [ref06_Text_l0]) ?_
    refine Ev.dT (by omega) (Ev.d (fun h=>?_) (fun h=>?_))
    · refine Ev.opt (catS_ok (by simp; omega)) (c1 _ (by simp; omega) ?_)
      have hne:L.take i≠[]:=fun e=>by
        have:(L.take i).length=0:=by rw [e]; rfl
        rw [List.length_take] at this
        omega
      rw [sn,if_neg hne]; simp
    · have e:i=0:=by omega
      subst e
      refine c1 _ (by rw [List.take_zero,Lib.join_nil]; simp; omega) ?_
      rw [sn]; simp [Lib.join_nil]
end

theorem txt_all:∀ t:Tr,Good t→t.w≤1048576→(isT 1 t=true→∃ v,Txt t v)∧(∀ y∈(match t with | .nil=>[] | .node _ _ _ _ l=>l),isT 1 y=true→∃ v,Txt y v):=Tr.ind
  (fun h=>by cases h)
  fun k n nm mk ks ih h hw=>by
    cases h with
    | mk g1 g2 g3 g4 =>
      rw [w_node] at hw
      have kid:∀ y∈ks,isT 1 y=true→∃ v,Txt y v:=fun y hy=>(ih y hy (g4 y hy) (by have:=wL_mem hy; omega)).1
      refine ⟨fun hi=>?_,kid⟩
      rcases kind1 hi with rfl | rfl | rfl | rfl | rfl | rfl | rfl
      · refine ⟨[105,110,116],fun level=>?_,?_,by rw [w_node]; simp; omega,by simp⟩
        · refine Ev.step (fun k=>by rw [ptype_write]) ?_
          exact Ev.dF (by decide) (Ev.dF (by decide) (Ev.dT rfl (Ev.pure' (by simp [par,need,kindOf]))))
        · refine Ev.step (fun k=>by rw [ref06_Text]) ?_
          exact Ev.dT (by decide) (Ev.opt (a:=[105,110,116]) rfl Ev.pure)
      · refine ⟨[98,111,111,108],fun level=>?_,?_,by rw [w_node]; simp; omega,by simp⟩
        · refine Ev.step (fun k=>by rw [ptype_write]) ?_
          exact Ev.dF (by decide) (Ev.dF (by decide) (Ev.dF (by decide) (Ev.dT rfl (Ev.pure' (by simp [par,need,kindOf])))))
        · refine Ev.step (fun k=>by rw [ref06_Text]) ?_
          exact Ev.dT (by decide) (Ev.opt (a:=[98,111,111,108]) rfl Ev.pure)
      · refine ⟨[117,110,105,116],fun level=>?_,?_,by rw [w_node]; simp; omega,by simp⟩
        · refine Ev.step (fun k=>by rw [ptype_write]) ?_
          exact Ev.dF (by decide) (Ev.dF (by decide) (Ev.dF (by decide) (Ev.dF (by decide) (Ev.dT rfl (Ev.pure' (by simp [par,need,kindOf]))))))
        · refine Ev.step (fun k=>by rw [ref06_Text]) ?_
          exact Ev.dT (by decide) (Ev.opt (a:=[117,110,105,116]) rfl Ev.pure)
      · rw [isT_row (r:=(1,4,[108],[],0,0,[])) rfl] at hi
        simp only [bodyS,wordS_l,Bool.and_eq_true] at hi
        have hl:=lg_len hi.1
        refine ⟨nm,fun level=>?_,?_,by rw [w_node]; omega,by rintro rfl; exact absurd hi.1 (by decide +kernel)⟩
        · refine Ev.step (fun k=>by rw [ptype_write]) ?_
          exact Ev.dF (by decide) (Ev.dF (by decide) (Ev.dF (by decide) (Ev.dF (by decide) (Ev.dF (by decide) (Ev.dF (by decide) (Ev.pure' (by simp [par,need,kindOf])))))))
        · refine Ev.step (fun k=>by rw [ref06_Text]) ?_
          exact Ev.dF (by decide) (Ev.dT rfl Ev.pure)
      · rw [isT_row (r:=(1,5,[],[],0,0,[116,116])) rfl] at hi
        simp only [bodyS,Bool.and_eq_true,kidsS_2 (a:=116) (b:=116) (c:=1) (d:=1) (by decide) (by decide) (by decide) (by decide) (by decide) (by decide) rfl rfl] at hi
        obtain ⟨x,y,rfl,hx,hy⟩:=k2S_form hi.2.2.2.2
        obtain ⟨vx,x1,x2,x3,_⟩:=kid x (by simp) hx
        obtain ⟨vy,y1,y2,y3,_⟩:=kid y (by simp) hy
        obtain ⟨kx,nx,nmx,mkx,ksx,ex⟩:=node_of hx
        have wx:=w_pos x
        rw [wL_cons,wL_cons,wL_nil] at hw
        have px:=par_len (decide (kindOf x=5)) vx
        have w1:=x1 1
        have w2:=y1 0
        rw [need1] at w1
        rw [need0] at w2
        refine ⟨par (decide (kindOf x=5)) vx++[32,45,62,32]++vy,fun level=>?_,?_,by rw [w_node,wL_cons,wL_cons,wL_nil]; simp; omega,by simp⟩
        · refine Ev.step (fun k=>by rw [ptype_write]) ?_
          refine Ev.dT rfl (Ev.opt (a:=x) rfl (Ev.opt (a:=y) rfl (Ev.bind w1 (Ev.opt (catS_ok (by simp; omega)) (Ev.bind w2 (Ev.opt (catS_ok (by rw [show par false vy=vy from rfl]; simp; omega)) (Ev.ret (Ev.cast (ev_paren _ _ (by rw [show par false vy=vy from rfl]; simp; omega)) ?_))))))))
          simp [need,kindOf,show par false vy=vy from rfl]
        · refine Ev.step (fun k=>by rw [ref06_Text]) ?_
          have wi:=ev_within x (decide (kindOf x=5)) vx x2 (by omega)
          subst ex
          refine Ev.dF (by decide) (Ev.dF (by decide) (Ev.dT rfl ?_))
          refine Ev.opt (a:=.node kx nx nmx mkx ksx) rfl ?_
          refine Ev.opt (a:=.node kx nx nmx mkx ksx) rfl ?_
          refine Ev.opt (a:=y) rfl ?_
          exact Ev.bind wi (Ev.opt (catS_ok (by simp; omega)) (Ev.bind y2 (Ev.opt (catS_ok (by simp; omega)) Ev.pure)))
      · rw [isT_row (r:=(1,6,[],[],0,0,[116,116])) rfl] at hi
        simp only [bodyS,Bool.and_eq_true,kidsS_2 (a:=116) (b:=116) (c:=1) (d:=1) (by decide) (by decide) (by decide) (by decide) (by decide) (by decide) rfl rfl] at hi
        obtain ⟨x,y,rfl,hx,hy⟩:=k2S_form hi.2.2.2.2
        obtain ⟨vx,x1,x2,x3,_⟩:=kid x (by simp) hx
        obtain ⟨vy,y1,y2,y3,_⟩:=kid y (by simp) hy
        obtain ⟨kx,nx,nmx,mkx,ksx,ex⟩:=node_of hx
        obtain ⟨ky,ny,nmy,mky,ksy,ey⟩:=node_of hy
        have wx:=w_pos x
        have wy:=w_pos y
        rw [wL_cons,wL_cons,wL_nil] at hw
        have px:=par_len (decide (kindOf x=5) || decide (kindOf x=6)) vx
        have py:=par_len (decide (kindOf y=5)) vy
        have w1:=x1 2
        have w2:=y1 1
        rw [need2] at w1
        rw [need1] at w2
        refine ⟨par (decide (kindOf x=5) || decide (kindOf x=6)) vx++[32,42,32]++par (decide (kindOf y=5)) vy,fun level=>?_,?_,by rw [w_node,wL_cons,wL_cons,wL_nil]; simp; omega,by simp⟩
        · refine Ev.step (fun k=>by rw [ptype_write]) ?_
          refine Ev.dF (by decide) (Ev.dT rfl (Ev.opt (a:=x) rfl (Ev.opt (a:=y) rfl (Ev.bind w1 (Ev.opt (catS_ok (by simp; omega)) (Ev.bind w2 (Ev.opt (catS_ok (by simp; omega)) (Ev.ret (Ev.cast (ev_paren _ _ (by simp; omega)) ?_)))))))))
          simp [need,kindOf]
        · refine Ev.step (fun k=>by rw [ref06_Text]) ?_
          refine Ev.dF (by decide) (Ev.dF (by decide) (Ev.dF (by decide) ?_))
          refine Ev.step (fun k=>by rw [ref06_Text_c0]) ?_
          have wi:=ev_within x (decide (kindOf x=5) || decide (kindOf x=6)) vx x2 (by omega)
          have wj:=ev_within y (decide (kindOf y=5)) vy y2 (by omega)
          subst ex ey
          refine Ev.dT rfl ?_
          refine Ev.opt (a:=.node kx nx nmx mkx ksx) rfl ?_
          refine Ev.opt (a:=.node ky ny nmy mky ksy) rfl ?_
          refine Ev.d (fun e=>?_) (fun e=>?_)
          · rw [show (decide (kindOf (.node kx nx nmx mkx ksx)=5) || decide (kindOf (.node kx nx nmx mkx ksx)=6))=true from by
              show (decide (kx=5) || _)=true
              rw [decide_eq_true e]; rfl]
            have pl:=par_len true vx
            exact Ev.bind (ev_within _ true vx x2 (by omega)) (Ev.opt (catS_ok (by simp; omega)) (Ev.bind wj (Ev.opt (catS_ok (by simp; omega)) Ev.pure)))
          · rw [show (decide (kindOf (.node kx nx nmx mkx ksx)=5) || decide (kindOf (.node kx nx nmx mkx ksx)=6))=decide (kx=6) from by
              show (decide (kx=5) || decide (kx=6))=_
              rw [decide_eq_false e]; rfl]
            have pl:=par_len (decide (kx=6)) vx
            exact Ev.bind (ev_within _ (decide (kx=6)) vx x2 (by omega)) (Ev.opt (catS_ok (by simp; omega)) (Ev.bind wj (Ev.opt (catS_ok (by simp; omega)) Ev.pure)))
      · rw [isT_row (r:=(1,7,[110],[],0,0,[67])) rfl] at hi
        have e67:kidsS isT [67] ks=(consGo (isT 8) [] ks && decide (0<ks.length)):=rfl
        simp only [bodyS,wordS_n,Bool.and_eq_true,e67] at hi
        have hn:=ck_len hi.1
        have hcs:∀ (l:List Tr) (s:List (List UInt8)),(∀ x∈l,x∈ks)→consGo (isT 8) s l=true→∃ L,Cons2 l L:=by
          intro l
          induction l with
          | nil=>intro s _ _; exact ⟨[],.nil⟩
          | cons x l ihl =>
            intro s hm hcg
            unfold consGo at hcg
            simp only [Bool.and_eq_true] at hcg
            obtain ⟨L,hL⟩:=ihl _ (fun z hz=>hm z (List.mem_cons_of_mem _ hz)) hcg.2.2
            obtain ⟨kx,nx,nmx,mkx,ksx,rfl⟩:=node_of hcg.1
            have h8:=hcg.1
            rw [isT_con] at h8
            simp only [Bool.and_eq_true] at h8
            obtain ⟨y,rfl,hy⟩:=k1S_form h8.2.2.2
            have hxm:=hm _ List.mem_cons_self
            obtain ⟨v,v1,v2,v3,_⟩:=(ih _ hxm (g4 _ hxm) (by have:=wL_mem hxm; omega)).2 y (by simp) hy
            exact ⟨_,.cons ⟨kx,nx,nmx,mkx,y,v,rfl,v1,v2,rfl,ck_len h8.2.2.1,v3⟩ hL⟩
        obtain ⟨L,hL⟩:=hcs ks [] (fun x hx=>hx) hi.2.2.2.2.1
        have hj:=hL.join
        refine ⟨[109,117,32]++nm++[32,123,32]++Lib.join L bar++[32,125],fun level=>?_,?_,by rw [w_node]; simp; omega,by simp⟩
        · refine Ev.step (fun k=>by rw [ptype_write]) ?_
          refine Ev.dF (by decide) (Ev.dF (by decide) (Ev.dF (by decide) (Ev.dF (by decide) (Ev.dF (by decide) (Ev.dT rfl (Ev.cast (ev_mu_write hL (by omega) hn ks.length 0 (by omega)) ?_))))))
          simp [par,need,kindOf]
        · refine Ev.step (fun k=>by rw [ref06_Text]) ?_
          refine Ev.dF (by decide) (Ev.dF (by decide) (Ev.dF (by decide) ?_))
          refine Ev.step (fun k=>by rw [ref06_Text_c0]) ?_
          refine Ev.dF (by decide) (Ev.opt (catS_ok (by simp; omega)) (Ev.opt (catS_ok (by simp; omega)) ?_))
          have:=ev_mu_text hL (k:=7) (n:=n) (mk:=mk) (nm:=nm) (by omega) hn ks.length 0 (by omega)
          simpa [Lib.join_nil] using this

end Go.Proofs.YtjhfgiieicloeaaGreatDoor

/- What the program writes of an expression is what the document writes; the law PexprWrites. -/
namespace Go.Proofs.YtjhfgiieicloeaaGreatDoor
open Go Go.Am Go.Sx
structure Wr (t:Tr) (v:List UInt8):Prop where
  pw:PW t v
  rw':RW t v
  len:v.length≤200 * t.w
theorem ev_written {y:Tr} {v:List UInt8} (hg:Good y) (hw:y.w≤1048576) (hs:sizeT y≤8192) (hd:deepT y≤60) (hi:isT 1 y=true) (h:Txt y v):Ev (fun K=>pexpr_written K y) v:=by
  have hf:Fine y:=⟨by omega,fun _=>hg⟩
  have h0:chk 1 y=0:=by rw [chk_small (good_full y hg) hs hd,if_pos hi]
  have v0:=h.1 0
  rw [need0] at v0
  have:Ev (fun K=>ptype_Write K y) (v,0):=Ev.congr (f:=fun K=>_) (Ev.bind (ev_Type hf) (Ev.nF h0 (Ev.bind v0 (Ev.pure' rfl)))) (fun _=>rfl)
  refine Ev.congr (f:=fun K=>_) ?_ (fun k=>by rw [pexpr_written])
  exact Ev.bind this Ev.pure
theorem joinTail_cons (x:List UInt8) (r:List (List UInt8)):Lib.joinTail barA (x :: r)=barA++x++Lib.joinTail barA r:=by simp [Lib.joinTail]
def AW (a:AT):Prop:=a.1.length≤32∧a.2.1.length≤32∧Wr a.2.2.1 a.2.2.2
theorem aTr_w (a:AT):(aTr a).w=1+a.2.2.1.w:=by unfold aTr; rw [w_node,wL_cons,wL_nil]; omega
theorem aw_len {a:AT} (h:AW a):(aTx a).length+3≤200 * (aTr a).w:=by
  obtain ⟨h1,h2,h3⟩:=h
  have:=h3.len
  unfold aTx aTr
  rw [w_node,wL_cons,wL_nil]
  simp; omega
theorem aw_tail:∀ L:List AT,(∀ a∈L,AW a)→(Lib.joinTail barA (L.map aTx)).length≤200 * wL (L.map aTr)
  | [],_=>by simp [Lib.joinTail]
  | a :: r,h=>by
    have h1:=aw_len (h a List.mem_cons_self)
    have h2:=aw_tail r fun x hx=>h x (List.mem_cons_of_mem _ hx)
    rw [List.map_cons,List.map_cons,joinTail_cons,wL_cons]
    simp only [List.length_append,List.length_cons,List.length_nil]
    omega
theorem aw_join:∀ L:List AT,(∀ a∈L,AW a)→(Lib.join (L.map aTx) barA).length≤200 * wL (L.map aTr)
  | [],_=>by simp [Lib.join_nil]
  | a :: r,h=>by
    have h1:=aw_len (h a List.mem_cons_self)
    have h2:=aw_tail r fun x hx=>h x (List.mem_cons_of_mem _ hx)
    rw [List.map_cons,List.map_cons,Lib.join_cons,wL_cons,List.length_append]
    omega
theorem arms_of:∀ r:List Tr,(∀ y∈r,isT 9 y=true)→(∀ y∈r,∀ e∈(match y with | .nil=>[] | .node _ _ _ _ l=>l),isT 2 e=true→∃ v,Wr e v)→∃ L:List AT,r=L.map aTr∧∀ a∈L,AW a
  | [],_,_=>⟨[],rfl,fun a h=>by cases h⟩
  | y :: r,h,hk=>by
    obtain ⟨L,rfl,hL⟩:=arms_of r (fun x hx=>h x (List.mem_cons_of_mem _ hx)) (fun x hx=>hk x (List.mem_cons_of_mem _ hx))
    obtain ⟨c,x,e,rfl,hc,hx,he⟩:=arm_of (h _ List.mem_cons_self)
    obtain ⟨v,hv⟩:=hk _ List.mem_cons_self e (by simp) he
    refine ⟨(c,x,e,v) :: L,rfl,fun a ha=>?_⟩
    rcases List.mem_cons.1 ha with rfl | ha
    · exact ⟨ck_len hc,ck_len hx,hv⟩
    · exact hL a ha
theorem wr_all:∀ t:Tr,Good t→t.w≤1048576→sizeT t≤8192→deepT t≤60→(isT 2 t=true→∃ v,Wr t v)∧(∀ y∈(match t with | .nil=>[] | .node _ _ _ _ l=>l),isT 2 y=true→∃ v,Wr y v):=Tr.ind
  (fun h=>by cases h)
  fun k n nm mk ks ih h hw hs hd=>by
    cases h with
    | mk g1 g2 g3 g4 =>
      rw [w_node] at hw
      rw [sizeT_node] at hs
      rw [deepT_node] at hd
      have sub:∀ y∈ks,Good y∧y.w≤1048576∧sizeT y≤8192∧deepT y≤60:=fun y hy=>⟨g4 y hy,by have:=wL_mem hy; omega,by have:=sizeL_mem hy; omega,by have:=deepL_mem (d:=0) hy; omega⟩
      have kid:∀ y∈ks,isT 2 y=true→∃ v,Wr y v:=fun y hy=>by
        obtain ⟨a,b,c,d⟩:=sub y hy
        exact (ih y hy a b c d).1
      have kid2:∀ y∈ks,∀ e∈(match y with | .nil=>[] | .node _ _ _ _ l=>l),isT 2 e=true→∃ v,Wr e v:=fun y hy=>by
        obtain ⟨a,b,c,d⟩:=sub y hy
        exact (ih y hy a b c d).2
      have typ:∀ y∈ks,isT 1 y=true→∃ v,Ev (fun K=>pexpr_written K y) v∧Ev (fun K=>ref06_Text K y) v∧v.length≤200 * y.w:=fun y hy hi=>by
        obtain ⟨a,b,c,d⟩:=sub y hy
        obtain ⟨v,hv⟩:=(txt_all y a b).1 hi
        exact ⟨v,ev_written a b c d hi hv,hv.2.1,hv.2.2.1⟩
      refine ⟨fun hi=>?_,kid⟩
      have form:=ex_of hi
      clear hi ih g1 g2 g3 g4
      cases form with
      | int n h=>exact ⟨_,pw_int (by omega),rw_int (by omega),by have:=numS_len (n:=n) (by omega); rw [w_node]; omega⟩
      | bool n h=>exact ⟨_,pw_bool,rw_bool,by rw [w_node]; unfold boolS; split <;> (simp; omega)⟩
      | unit=>exact ⟨_,pw_unit,rw_unit,by rw [w_node]; simp; omega⟩
      | var s h=>exact ⟨_,pw_var,rw_var,by have:=lg_len h; rw [w_node]; omega⟩
      | lam s t b h ht hb =>
        obtain ⟨vt,t1,t2,t3⟩:=typ t (by simp) ht
        obtain ⟨vb,hb⟩:=kid b (by simp) hb
        have h1:=hb.len
        have hn:=ck_len h
        rw [wL_cons,wL_cons,wL_nil] at hw
        exact ⟨_,pw_lam t1 hb.pw (by omega) (by omega) (by omega),rw_lam t2 hb.rw' (by omega) (by omega) (by omega),by rw [w_node,wL_cons,wL_cons,wL_nil]; simp; omega⟩
      | app a b ha hb =>
        obtain ⟨va,ha⟩:=kid a (by simp) ha
        obtain ⟨vb,hb⟩:=kid b (by simp) hb
        have h1:=ha.len
        have h2:=hb.len
        rw [wL_cons,wL_cons,wL_nil] at hw
        have pa:=par_len (decide (lvE a<4)) va
        have pb:=par_len (decide (lvE b<5)) vb
        exact ⟨_,pw_app ha.pw hb.pw (by omega) (by omega),rw_app ha.rw' hb.rw' (by omega) (by omega),by rw [w_node,wL_cons,wL_cons,wL_nil]; simp; omega⟩
      | pair a b ha hb =>
        obtain ⟨va,ha⟩:=kid a (by simp) ha
        obtain ⟨vb,hb⟩:=kid b (by simp) hb
        have h1:=ha.len
        have h2:=hb.len
        rw [wL_cons,wL_cons,wL_nil] at hw
        exact ⟨_,pw_pair ha.pw hb.pw (by omega) (by omega),rw_pair ha.rw' hb.rw' (by omega) (by omega),by rw [w_node,wL_cons,wL_cons,wL_nil]; simp; omega⟩
      | fst a ha =>
        obtain ⟨va,ha⟩:=kid a (by simp) ha
        have h1:=ha.len
        rw [wL_cons,wL_nil] at hw
        have pa:=par_len (decide (lvE a<5)) va
        exact ⟨_,pw_fst ha.pw (by omega),rw_fst ha.rw' (by omega),by rw [w_node,wL_cons,wL_nil]; simp; omega⟩
      | snd a ha =>
        obtain ⟨va,ha⟩:=kid a (by simp) ha
        have h1:=ha.len
        rw [wL_cons,wL_nil] at hw
        have pa:=par_len (decide (lvE a<5)) va
        exact ⟨_,pw_snd ha.pw (by omega),rw_snd ha.rw' (by omega),by rw [w_node,wL_cons,wL_nil]; simp; omega⟩
      | let_ s a b h ha hb =>
        obtain ⟨va,ha⟩:=kid a (by simp) ha
        obtain ⟨vb,hb⟩:=kid b (by simp) hb
        have h1:=ha.len
        have h2:=hb.len
        have hn:=ck_len h
        rw [wL_cons,wL_cons,wL_nil] at hw
        exact ⟨_,pw_let ha.pw hb.pw (by omega) (by omega) (by omega),rw_let ha.rw' hb.rw' (by omega) (by omega) (by omega),by rw [w_node,wL_cons,wL_cons,wL_nil]; simp; omega⟩
      | if_ a b c ha hb hc =>
        obtain ⟨va,ha⟩:=kid a (by simp) ha
        obtain ⟨vb,hb⟩:=kid b (by simp) hb
        obtain ⟨vc,hc⟩:=kid c (by simp) hc
        have h1:=ha.len
        have h2:=hb.len
        have h3:=hc.len
        rw [wL_cons,wL_cons,wL_cons,wL_nil] at hw
        exact ⟨_,pw_if ha.pw hb.pw hc.pw (by omega) (by omega) (by omega),rw_if ha.rw' hb.rw' hc.rw' (by omega) (by omega) (by omega),by rw [w_node,wL_cons,wL_cons,wL_cons,wL_nil]; simp; omega⟩
      | op n a b h ha hb =>
        obtain ⟨va,ha⟩:=kid a (by simp) ha
        obtain ⟨vb,hb⟩:=kid b (by simp) hb
        have h1:=ha.len
        have h2:=hb.len
        rw [wL_cons,wL_cons,wL_nil] at hw
        have pa:=par_len (decide (lvE a<lfO n)) va
        have pb:=par_len (decide (lvE b<lvO n+1)) vb
        have sl:=sgO_len n
        exact ⟨_,pw_op h ha.pw hb.pw (by omega) (by omega),rw_op h ha.rw' hb.rw' (by omega) (by omega),by rw [w_node,wL_cons,wL_cons,wL_nil]; simp; omega⟩
      | case_ a r ha h0 hr =>
        obtain ⟨va,ha⟩:=kid a (by simp) ha
        have h1:=ha.len
        obtain ⟨L,rfl,hL⟩:=arms_of r hr (fun y hy=>kid2 y (List.mem_cons_of_mem _ hy))
        rw [wL_cons] at hw
        have hj:=aw_join L hL
        have hl:=wL_len (L.map aTr)
        rw [List.length_map] at hl
        have hb:∀ x∈L,x.2.2.1.w≤1048576:=fun x hx=>by
          have:=wL_mem (List.mem_map_of_mem (f:=aTr) hx)
          rw [aTr_w] at this
          omega
        refine ⟨_,pw_case ha.pw (by omega) (fun x hx=>?_) (by omega) (by omega),rw_case ha.rw' (by omega) (fun x hx=>?_) (by omega) (by omega),by rw [w_node,wL_cons]; unfold armsS; simp; omega⟩
        · obtain ⟨q1,q2,q3⟩:=hL x hx
          have:=q3.len; have:=hb x hx
          exact ⟨by omega,by omega,q3.pw,by omega⟩
        · obtain ⟨q1,q2,q3⟩:=hL x hx
          have:=q3.len; have:=hb x hx
          exact ⟨by omega,by omega,q3.rw',by omega⟩
      | fold_ a t r ha ht h0 hr =>
        obtain ⟨va,ha⟩:=kid a (by simp) ha
        obtain ⟨vt,t1,t2,t3⟩:=typ t (by simp) ht
        have h1:=ha.len
        obtain ⟨L,rfl,hL⟩:=arms_of r hr (fun y hy=>kid2 y (List.mem_cons_of_mem _ (List.mem_cons_of_mem _ hy)))
        rw [wL_cons,wL_cons] at hw
        have hj:=aw_join L hL
        have hl:=wL_len (L.map aTr)
        rw [List.length_map] at hl
        have hb:∀ x∈L,x.2.2.1.w≤1048576:=fun x hx=>by
          have:=wL_mem (List.mem_map_of_mem (f:=aTr) hx)
          rw [aTr_w] at this
          omega
        refine ⟨_,pw_fold ha.pw (by omega) t1 (by omega) (fun x hx=>?_) (by omega) (by omega),rw_fold ha.rw' (by omega) t2 (by omega) (fun x hx=>?_) (by omega) (by omega),by rw [w_node,wL_cons,wL_cons]; unfold armsS; simp; omega⟩
        · obtain ⟨q1,q2,q3⟩:=hL x hx
          have:=q3.len; have:=hb x hx
          exact ⟨by omega,by omega,q3.pw,by omega⟩
        · obtain ⟨q1,q2,q3⟩:=hL x hx
          have:=q3.len; have:=hb x hx
          exact ⟨by omega,by omega,q3.rw',by omega⟩
end Go.Proofs.YtjhfgiieicloeaaGreatDoor

