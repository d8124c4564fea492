/- Joined texts: L1, L2, L3, L4. -/
import Derived.Test.YtjhfgiieicloeaaGreatDoorGv
/- The lexer, piece by piece: spans of runes, comments, what may be read. -/
namespace Go.Proofs.YtjhfgiieicloeaaGreatDoor
open Go Go.Am Go.Sx
theorem aHf {P:List UInt8→Prop} (h0:P []) (h1:∀ s,s≠[]→P (s.drop (dc s).2)→P s):∀ s,P s:=by
 have:∀ n s,s.length≤n→P s:=by
  intro n
  induction n with
  | zero =>
   intro s h
   obtain rfl:=List.length_eq_zero_iff.1 (Nat.le_zero.1 h)
   exact h0
  | succ n ih =>
   intro s h
   by_cases e:s=[]
   ·subst e; exact h0
   ·have:=oD s
    exact h1 s e (ih _ (by rw [List.length_drop]; omega))
 exact fun s=>this _ s (Nat.le_refl _)
def spF (p:Int→Bool):Nat→List UInt8→Nat
 | 0,_=>0
 | n+1,s=>if s=[] then 0 else if p (((dc s).1:Nat):Int)=true then (dc s).2+spF p n (s.drop (dc s).2) else 0
theorem aWC (p:Int→Bool):∀ (n m:Nat) (s:List UInt8),s.length≤n→s.length≤m→spF p n s=spF p m s:=by
 intro n
 induction n with
 | zero =>
  intro m s h _
  obtain rfl:=List.length_eq_zero_iff.1 (Nat.le_zero.1 h)
  cases m <;> simp [spF]
 | succ n ih =>
  intro m s h h'
  cases m with
  | zero =>
   obtain rfl:=List.length_eq_zero_iff.1 (Nat.le_zero.1 h')
   simp [spF]
  | succ m =>
   have hw:=oD s
   unfold spF
   by_cases e:s=[]
   ·rw [if_pos e,if_pos e]
   ·rw [if_neg e,if_neg e,ih m (s.drop (dc s).2) (by rw [List.length_drop]; omega) (by rw [List.length_drop]; omega)]
def sp (p:Int→Bool) (s:List UInt8):Nat:=spF p s.length s
section
variable {p:Int→Bool}
theorem bGs:sp p []=0:=rfl
theorem aGg {s:List UInt8} (h:s≠[]):sp p s=if p (((dc s).1:Nat):Int)=true then (dc s).2+sp p (s.drop (dc s).2) else 0:=by
 have hw:=oD s
 have:1≤s.length:=by cases s with | nil=>exact absurd rfl h | cons=>simp
 have e:sp p s=spF p ((s.length - 1)+1) s:=aWC p _ _ s (Nat.le_refl _) (by omega)
 rw [e]
 show (if s=[] then 0 else _)=_
 rw [if_neg h]
 unfold sp
 rw [aWC p (s.length - 1) _ (s.drop (dc s).2) (by rw [List.length_drop]; omega) (Nat.le_refl _)]
theorem aL5:∀ s,sp p s≤s.length:=by
 refine aHf (Nat.le_refl _) fun s h ih=>?_
 rw [aGg h]
 have:=aOt h
 rw [List.length_drop] at ih
 split <;> omega
theorem bB5 {s:List UInt8} (h:s≠[]):(p (((dc s).1:Nat):Int)=true→1≤sp p s)∧(p (((dc s).1:Nat):Int)=false→sp p s=0):=by
 rw [aGg h]
 have:=oD s
 exact ⟨fun e=>by rw [if_pos e]; omega,fun e=>by rw [if_neg (by rw [e]; decide)]⟩
theorem bBG {L:Nat→List UInt8→List UInt8→Int→Option Int} {f:Nat→Int→Option Bool}
  (hL:∀ k s w i,L (k+1) s w i=iteS (decide ((i:Int).toNat<w.length)) ((f k (((fY w ((i:Int).toNat)).1:Nat):Int)).bind fun v2=>(iteS (!v2) (some (((i:Int).toNat:Nat):Int)) (L k s w (((i:Int).toNat+(fY w ((i:Int).toNat)).2:Nat):Int)))) (some ((s.length:Nat):Int)))
  (hf:∀ r,Ev (fun K=>f K r) (p r)) (s:List UInt8):Ev (fun K=>L K s s 0) ((sp p s:Nat):Int):=by
 have gen:∀ t,∀ i:Nat,s.drop i=t→i≤s.length→Ev (fun K=>L K s s (i:Int)) ((i+sp p t:Nat):Int):=by
  refine aHf ?_ ?_
  ·intro i hd hi
   have:s.length≤i:=List.drop_eq_nil_iff.1 hd
   refine Ev.step (fun k=>hL k _ _ _) ?_
   refine Ev.dF (by simp only [Int.toNat_natCast]; omega) (Ev.pure' ?_)
   rw [bGs]; omega
  ·intro t ht ih i hd hi
   have hl:=congrArg List.length hd
   rw [List.length_drop] at hl
   have h1:1≤t.length:=by cases t with | nil=>exact absurd rfl ht | cons=>simp
   have hle:=aOt ht
   refine Ev.step (fun k=>hL k _ _ _) ?_
   simp only [Int.toNat_natCast,mC]
   rw [hd]
   refine Ev.dT (by omega) ?_
   refine Ev.bind (hf _) ?_
   rw [aGg ht]
   cases hp:p (((dc t).1:Nat):Int) with
   | true =>
    refine Ev.isF rfl ?_
    rw [if_pos rfl,← Nat.add_assoc]
    exact ih (i+(dc t).2) (by rw [← List.drop_drop,hd]) (by omega)
   | false =>
    refine Ev.isT rfl ?_
    rw [if_neg (by decide)]
    exact Ev.pure
 have:=gen s 0 rfl (Nat.zero_le _)
 rw [Nat.zero_add] at this
 exact this
end
abbrev blR:Int→Bool:=fun r=>decide (cls r=3)
abbrev dgR:Int→Bool:=fun r=>decide (cls r=2)
theorem bHg (s:List UInt8):Ev (fun K=>sY K s) ((sp blR s:Nat):Int) :=
 Ev.congr (f:=fun K=>_) (bBG (L:=kR) (f:=aA5) (fun k s w i=>by rw [kR]) aSS s) (fun K=>by rw [sY])
theorem aX6 (s:List UInt8):Ev (fun K=>oM K s) ((sp rS s:Nat):Int) :=
 Ev.congr (f:=fun K=>_) (bBG (L:=fZ) (f:=aAT) (fun k s w i=>by rw [fZ]) aSB s) (fun K=>by rw [oM])
theorem bG7 (s:List UInt8):Ev (fun K=>uK K s) ((sp dgR s:Nat):Int) :=
 Ev.congr (f:=fun K=>_) (bBG (L:=iU) (f:=rZ) (fun k s w i=>by rw [iU]) aS7 s) (fun K=>by rw [uK])
/-! ### comments -/
def cmF:Nat→Nat→List UInt8→Nat→Nat
 | 0,_,_,_=>0
 | n+1,d,s,i=>if s=[] then 0 else if List.isPrefixOf [40,42] s=true then cmF n (d+1) (s.drop 2) (i+2) else if List.isPrefixOf [42,41] s=true then (if d=1 then i+2 else cmF n (d - 1) (s.drop 2) (i+2)) else cmF n d (s.drop 1) (i+1)
def cmt (s:List UInt8):Nat:=cmF (s.length+1) 0 s 0
theorem aHD {a b:UInt8} {s:List UInt8} (h:List.isPrefixOf [a,b] s=true):∃ t,s=a :: b :: t:=by
 obtain ⟨t,ht⟩:=List.isPrefixOf_iff_prefix.1 h
 exact ⟨t,by rw [← ht]; rfl⟩
theorem aY9:∀ (n d:Nat) (s:List UInt8) (i:Nat),cmF n d s i≠0→i+2≤cmF n d s i∧cmF n d s i≤i+s.length:=by
 intro n
 induction n with
 | zero=>intro d s i h; exact absurd rfl h
 | succ n ih =>
  intro d s i
  unfold cmF
  by_cases e:s=[]
  ·rw [if_pos e]; exact fun h=>absurd rfl h
  rw [if_neg e]
  have h1:1≤s.length:=by cases s with | nil=>exact absurd rfl e | cons=>simp
  by_cases h2:List.isPrefixOf [40,42] s=true
  ·rw [if_pos h2]
   intro h
   have:=ih _ _ _ h
   obtain ⟨t,rfl⟩:=aHD h2
   simp only [List.length_drop,List.length_cons] at this ⊢
   omega
  rw [if_neg h2]
  by_cases h3:List.isPrefixOf [42,41] s=true
  ·rw [if_pos h3]
   obtain ⟨t,rfl⟩:=aHD h3
   by_cases hd:d=1
   ·rw [if_pos hd]; intro _; simp only [List.length_cons]; omega
   ·rw [if_neg hd]
    intro h
    have:=ih _ _ _ h
    simp only [List.length_drop,List.length_cons] at this ⊢
    omega
  ·rw [if_neg h3]
   intro h
   have:=ih _ _ _ h
   rw [List.length_drop] at this
   omega
theorem aX7 (s:List UInt8) (hs:s.length≤2000000):∀ (n d i:Nat),s.length - i+1≤n→i≤s.length→d≤i→(d=0→List.isPrefixOf [40,42] (s.drop i)=true)→Ev (fun K=>iZ K s (d:Int) (i:Int)) ((cmF n d (s.drop i) i:Nat):Int):=by
 intro n
 induction n with
 | zero=>intro d i h; omega
 | succ n ih =>
  intro d i hn hi hdi h0
  refine Ev.step (fun k=>by rw [iZ]) ?_
  unfold cmF
  by_cases e:s.drop i=[]
  ·rw [if_pos e]
   have:s.length≤i:=List.drop_eq_nil_iff.1 e
   exact Ev.dF (by omega) Ev.pure
  rw [if_neg e]
  have hlt:i<s.length:=by
   have:=mt List.drop_eq_nil_iff.2 e
   omega
  have hsub:=aGb (l:=s) (a:=i) hi
  refine Ev.dT (by omega) ?_
  refine Ev.opt hsub ?_
  refine Ev.bind (aHB _ _) ?_
  by_cases h2:List.isPrefixOf [40,42] (s.drop i)=true
  ·rw [if_pos h2,h2]
   refine Ev.isT rfl ?_
   obtain ⟨t,ht⟩:=aHD h2
   have hl:=congrArg List.length ht
   rw [List.length_drop,List.length_cons,List.length_cons] at hl
   rw [dE (by omega),fP (by omega) (by omega),show (i:Int)+2=((i+2:Nat):Int) by omega,List.drop_drop]
   exact ih (d+1) (i+2) (by omega) (by omega) (by omega) (fun h=>by omega)
  rw [if_neg h2,(Bool.not_eq_true _).mp h2]
  refine Ev.isF rfl ?_
  refine Ev.opt hsub ?_
  refine Ev.bind (aHB _ _) ?_
  have hd1:d≠0:=fun h=>h2 (h0 h)
  by_cases h3:List.isPrefixOf [42,41] (s.drop i)=true
  ·rw [if_pos h3,h3]
   refine Ev.isT rfl ?_
   obtain ⟨t,ht⟩:=aHD h3
   have hl:=congrArg List.length ht
   rw [List.length_drop,List.length_cons,List.length_cons] at hl
   rw [fP (x:=(d:Int) - 1) (by omega) (by omega),fP (x:=(i:Int)+2) (by omega) (by omega),show (i:Int)+2=((i+2:Nat):Int) by omega]
   by_cases hd:d=1
   ·rw [if_pos hd]
    exact Ev.dT (by omega) Ev.pure
   ·rw [if_neg hd,show (d:Int) - 1=((d - 1:Nat):Int) by omega,List.drop_drop]
    exact Ev.dF (by omega) (ih (d - 1) (i+2) (by omega) (by omega) (by omega) (fun h=>by omega))
  ·rw [if_neg h3,(Bool.not_eq_true _).mp h3]
   refine Ev.isF rfl ?_
   rw [dE (by omega),List.drop_drop]
   exact ih d (i+1) (by omega) (by omega) (by omega) (fun h=>by omega)
theorem bHp {s:List UInt8} (hs:s.length≤2000000) (h:List.isPrefixOf [40,42] s=true):Ev (fun K=>zG K s) ((cmt s:Nat):Int) :=
 Ev.congr (f:=fun K=>_) (aX7 s hs (s.length+1) 0 0 (by omega) (by omega) (by omega) (fun _=>h)) (fun K=>by rw [zG]; rfl)
/-! ### may it be read? -/
theorem Rk.step {s:List UInt8} (h:Rk s) (hs:s≠[]):okr (dc s).1∧Rk (s.drop (dc s).2):=by
 cases h with
 | nil=>exact absurd rfl hs
 | cons _ a b=>exact ⟨a,b⟩
theorem aT8 (s:List UInt8):∀ t,∀ i:Nat,s.drop i=t→i≤s.length→(Rk t∧Ev (fun K=>cY K s (i:Int)) (0,0))∨(¬ Rk t∧∃ j:Nat,j≤s.length∧Ev (fun K=>cY K s (i:Int)) ((j:Int),4)):=by
 refine aHf ?_ ?_
 ·intro i hd hi
  have:s.length≤i:=List.drop_eq_nil_iff.1 hd
  refine .inl ⟨.nil,Ev.step (fun k=>by rw [cY]) ?_⟩
  exact Ev.dF (by simp only [Int.toNat_natCast]; omega) Ev.pure
 ·intro t ht ih i hd hi
  have hl:=congrArg List.length hd
  rw [List.length_drop] at hl
  have h1:1≤t.length:=by cases t with | nil=>exact absurd rfl ht | cons=>simp
  have hle:=aOt ht
  have bad:¬ okr (dc t).1→Ev (fun K=>cY K s (i:Int)) ((i:Int),4):=fun hb=>by
   refine Ev.step (fun k=>by rw [cY]) ?_
   simp only [Int.toNat_natCast,mC]
   rw [hd]
   refine Ev.dT (by omega) ?_
   refine Ev.d (fun _=>Ev.pure) (fun c1=>?_)
   refine Ev.d (fun c2=>Ev.bind (qH _) ?_) (fun c2=>?_)
   ·refine Ev.n (fun _=>Ev.pure) (fun c3=>?_)
    refine Ev.dT ?_ Ev.pure
    refine Classical.byContradiction fun c4=>hb ⟨by omega,fun _=>c3,by omega⟩
   ·refine Ev.dT ?_ Ev.pure
    refine Classical.byContradiction fun c4=>hb ⟨by omega,fun h=>absurd h c2,by omega⟩
  by_cases hok:okr (dc t).1
  ·have good:∀ {v:Int×Int},Ev (fun K=>cY K s ((i+(dc t).2:Nat):Int)) v→Ev (fun K=>cY K s (i:Int)) v:=fun {v} nxt=>by
    obtain ⟨o1,o2,o3⟩:=hok
    refine Ev.step (fun k=>by rw [cY]) ?_
    simp only [Int.toNat_natCast,mC]
    rw [hd]
    refine Ev.dT (by omega) ?_
    refine Ev.dF (by omega) ?_
    refine Ev.d (fun h32=>Ev.bind (qH _) ?_) (fun h32=>?_)
    ·exact Ev.nF (o2 h32) (Ev.dF (by omega) nxt)
    ·exact Ev.dF (by omega) nxt
   rcases ih (i+(dc t).2) (by rw [← List.drop_drop,hd]) (by omega) with ⟨a,b⟩ | ⟨a,j,b,c⟩
   ·exact .inl ⟨.cons ht hok a,good b⟩
   ·exact .inr ⟨fun h=>a (h.step ht).2,j,b,good c⟩
  ·exact .inr ⟨fun h=>hok (h.step ht).1,i,hi,bad hok⟩
theorem aVn {s:List UInt8} (hs:s.length≤16384):(Rk s∧Ev (fun K=>rA K s) (0,0))∨(¬ Rk s∧∃ j:Nat,j≤s.length∧Ev (fun K=>rA K s) ((j:Int),4)):=by
 have q:∀ {v:Int×Int},Ev (fun K=>cY K s 0) v→Ev (fun K=>rA K s) v:=fun h=>by
  refine Ev.congr (f:=fun K=>_) ?_ (fun K=>by rw [rA])
  exact Ev.dF (by omega) h
 rcases aT8 s s 0 rfl (Nat.zero_le _) with ⟨a,b⟩ | ⟨a,j,b,c⟩
 ·exact .inl ⟨a,q b⟩
 ·exact .inr ⟨a,j,b,q c⟩
end Go.Proofs.YtjhfgiieicloeaaGreatDoor

/- The lexer, piece by piece: words, names, numbers, signs. -/
namespace Go.Proofs.YtjhfgiieicloeaaGreatDoor
open Go Go.Am Go.Sx
theorem bGx {s:List UInt8} (h:s≠[]) (hr:(dc s).1<128):∃ b t,s=b :: t∧b.toNat=(dc s).1∧(dc s).2=1:=by
 cases s with
 | nil=>exact absurd rfl h
 | cons b t =>
  refine ⟨b,t,rfl,?_⟩
  have e0:(b :: t)[0]! = b:=rfl
  unfold dc Lib.decodeN at hr ⊢
  rw [e0] at hr ⊢
  by_cases c0:b.toNat<128
  ·rw [if_pos c0]; exact ⟨rfl,rfl⟩
  ·exfalso
   rw [if_neg c0] at hr
   revert hr
   repeat' split
   all_goals simp only; omega
theorem aZQ {r:Int} (h:cls r=2):48≤r∧r≤57:=by
 unfold cls at h
 repeat' split at h
 all_goals first | omega | (exact absurd h (by decide))
theorem bFG:∀ s:List UInt8,Dg (s.take (sp dgR s)):=by
 refine aHf ?_ fun s h ih=>?_
 ·intro b hb; cases hb
 ·rw [aGg h]
  by_cases hc:dgR (((dc s).1:Nat):Int)=true
  ·rw [if_pos hc]
   have hc2:=aZQ (of_decide_eq_true hc)
   obtain ⟨b,t,rfl,e1,e2⟩:=bGx h (by omega)
   rw [e2] at ih ⊢
   rw [Nat.add_comm,List.take_succ_cons]
   intro c hc
   rcases List.mem_cons.1 hc with rfl | hc
   ·omega
   ·exact ih c hc
  ·rw [if_neg hc]
   intro b hb; cases hb
theorem aTu {l:List UInt8} {k:Nat} (h:k≤l.length):kA l 0 ((k:Nat):Int)=some (l.take k):=by
 have:=vH (l:=l) (a:=0) (b:=k) (by omega) h
 simpa using this
theorem aKA {l:List UInt8} {n:Nat} (h:n<l.length):(l.drop n).head?=some l[n]:=by rw [kM h]; rfl
def lgF:Nat→Bool→List UInt8→Nat×Bool
 | 0,_,_=>(0,false)
 | n+1,ok,t=>if ok=true∧t.head?=some 46 then (1+sp rS (t.drop 1)+(lgF n (fH ((t.drop 1).take (sp rS (t.drop 1)))) (t.drop (1+sp rS (t.drop 1)))).1,(lgF n (fH ((t.drop 1).take (sp rS (t.drop 1)))) (t.drop (1+sp rS (t.drop 1)))).2) else (0,ok)
theorem bBu:∀ (n:Nat) (ok:Bool) (t:List UInt8),(lgF n ok t).1≤t.length:=by
 intro n
 induction n with
 | zero=>intro ok t; exact Nat.zero_le _
 | succ n ih =>
  intro ok t
  unfold lgF
  by_cases h:ok=true∧t.head?=some 46
  ·rw [if_pos h]
   have:=ih (fH ((t.drop 1).take (sp rS (t.drop 1)))) (t.drop (1+sp rS (t.drop 1)))
   have h1:1≤t.length:=by cases t with | nil=>exact absurd h.2 (by simp) | cons=>simp
   have h2:=aL5 (p:=rS) (t.drop 1)
   rw [List.length_drop] at this h2
   simp only
   omega
  ·rw [if_neg h]; exact Nat.zero_le _
theorem aV8 {β:Type} {p:List UInt8} {F:Nat→Bool→Option β} {v:β} (h:Ev (fun K=>F K (fH p)) v):Ev (fun K=>(uL K p).bind fun x=>iteS x ((rF K p).bind fun y=>F K (!y)) (F K false)) v:=by
 refine Ev.bind (aOx p) ?_
 cases hn:nmS p with
 | true =>
  refine Ev.isT rfl (Ev.bind (aFo p) ?_)
  unfold fH at h
  rw [hn,Bool.true_and] at h
  exact h
 | false =>
  refine Ev.isF rfl ?_
  unfold fH at h
  rw [hn,Bool.false_and] at h
  exact h
theorem aVL (s:List UInt8) (hs:s.length≤2000000):∀ (m n:Nat) (ok:Bool),s.length - n+1≤m→n≤s.length→Ev (fun K=>eD K s (n:Int) ok) (1,s.take (n+(lgF m ok (s.drop n)).1),0,0,((n+(lgF m ok (s.drop n)).1:Nat):Int),(lgF m ok (s.drop n)).2 && decide (n+(lgF m ok (s.drop n)).1≤128)):=by
 intro m
 induction m with
 | zero=>intro n ok h; omega
 | succ m ih =>
  intro n ok hm hn
  have hsub:=aTu hn
  refine Ev.step (fun k=>by rw [eD]) ?_
  unfold lgF
  cases ok with
  | false =>
   rw [if_neg (fun h=>absurd h.1 (by decide))]
   refine Ev.isF rfl ?_
   exact Ev.opt hsub (Ev.pure' (by simp))
  | true =>
   refine Ev.isT rfl ?_
   refine Ev.d (fun h=>?_) (fun h=>?_)
   ·have hlt:n<s.length:=by omega
    refine Ev.opt (eM hlt) ?_
    rw [aKA hlt]
    refine Ev.d (fun h46=>?_) (fun h46=>?_)
    ·have h46:s[n]=46:=by
      have:s[n].toNat=46:=by omega
      exact UInt8.toNat_inj.1 this
     rw [if_pos ⟨rfl,by rw [h46]⟩,List.drop_drop,dE (by omega)]
     have hsd:=aGb (l:=s) (a:=n+1) (by omega)
     refine Ev.opt hsd ?_
     refine Ev.bind (aX6 _) ?_
     refine Ev.opt hsd ?_
     have hle:=aL5 (p:=rS) (s.drop (n+1))
     refine Ev.opt (aTu hle) ?_
     generalize hk:sp rS (s.drop (n+1))=k at *
     rw [List.length_drop] at hle
     refine aV8 (F:=fun K b=>eD K s (IntKind.i64.wrap (((n:Nat):Int)+IntKind.i64.wrap (1+((k:Nat):Int)))) b) ?_
     rw [fP (x:=1+((k:Nat):Int)) (by omega) (by omega),fP (by omega) (by omega),show (n:Int)+(1+((k:Nat):Int))=((n+1+k:Nat):Int) by omega]
     have nxt:=ih (n+1+k) (fH ((s.drop (n+1)).take k)) (by omega) (by omega)
     rw [List.drop_drop,show n+(1+k)=n+1+k by omega]
     simp only
     rw [show n+(1+k+(lgF m (fH (List.take k (List.drop (n+1) s))) (List.drop (n+1+k) s)).fst)=n+1+k+(lgF m (fH (List.take k (List.drop (n+1) s))) (List.drop (n+1+k) s)).fst by omega]
     exact nxt
    ·have h46:¬ some s[n]=some (46:UInt8):=by
      intro e
      have e:=Option.some.inj e
      rw [e] at h46
      exact h46 rfl
     rw [if_neg (fun h=>h46 h.2)]
     refine Ev.opt hsub (Ev.pure' ?_)
     simp only [Nat.add_zero,Bool.true_and,Prod.mk.injEq,true_and]
     exact decide_eq_decide.2 (by omega)
   ·have hn2:s.drop n=[]:=List.drop_of_length_le (by omega)
    rw [hn2,if_neg (fun h=>by simp at h)]
    refine Ev.opt hsub (Ev.pure' ?_)
    simp only [Nat.add_zero,Bool.true_and,Prod.mk.injEq,true_and]
    exact decide_eq_decide.2 (by omega)
def lnS (s:List UInt8):aYT :=
 if s.take (sp rS s)∈aNI∧(s.drop (sp rS s)).head?≠some 46 then (3,s.take (sp rS s),0,0,((sp rS s:Nat):Int),true)
 else (1,s.take (sp rS s+(lgF (s.length+1) (fH (s.take (sp rS s))) (s.drop (sp rS s))).1),0,0,((sp rS s+(lgF (s.length+1) (fH (s.take (sp rS s))) (s.drop (sp rS s))).1:Nat):Int),
  (lgF (s.length+1) (fH (s.take (sp rS s))) (s.drop (sp rS s))).2 && decide (sp rS s+(lgF (s.length+1) (fH (s.take (sp rS s))) (s.drop (sp rS s))).1≤128))
theorem bEg {s:List UInt8} (hs:s.length≤2000000):Ev (fun K=>aAr K s) (lnS s):=by
 refine Ev.congr (f:=fun K=>_) ?_ (fun K=>by rw [aAr])
 have hle:=aL5 (p:=rS) s
 refine Ev.bind (aX6 s) ?_
 have hsub:=aTu hle
 have nxt:=aVL s hs (s.length+1) (sp rS s) (fH (s.take (sp rS s))) (by omega) hle
 unfold lnS
 generalize hn:sp rS s=n at *
 refine Ev.opt hsub ?_
 refine Ev.bind (aFo _) ?_
 by_cases hw:s.take n∈aNI
 ·rw [decide_eq_true hw]
  refine Ev.isT rfl ?_
  refine Ev.d (fun h=>?_) (fun h=>?_)
  ·have hn2:s.drop n=[]:=List.drop_of_length_le (by omega)
   rw [if_pos ⟨hw,by rw [hn2]; simp⟩]
   exact Ev.opt hsub Ev.pure
  ·have hlt:n<s.length:=by omega
   refine Ev.opt (eM hlt) ?_
   refine Ev.n (fun h46=>?_) (fun h46=>?_)
   ·have h46:¬ some s[n]=some (46:UInt8):=by
     intro e
     have e:=Option.some.inj e
     rw [e] at h46
     exact h46 rfl
    rw [if_pos ⟨hw,by rw [aKA hlt]; exact h46⟩]
    exact Ev.opt hsub Ev.pure
   ·have h46:s[n]=46:=by
     have:s[n].toNat=46:=by omega
     exact UInt8.toNat_inj.1 this
    rw [if_neg (fun h=>h.2 (by rw [aKA hlt,h46]))]
    refine Ev.opt hsub ?_
    have q:=aV8 (p:=s.take n) (F:=fun K b=>eD K s ((n:Nat):Int) b) nxt
    refine Ev.congr (f:=fun K=>_) q fun K=>?_
    simp only [hsub,Option.bind_some]
 ·rw [decide_eq_false hw,if_neg (fun h=>hw h.1)]
  refine Ev.isF rfl ?_
  refine Ev.opt hsub ?_
  have q:=aV8 (p:=s.take n) (F:=fun K b=>eD K s ((n:Nat):Int) b) nxt
  refine Ev.congr (f:=fun K=>_) q fun K=>?_
  simp only [hsub,Option.bind_some]
/-! ### numbers -/
def bFM:aYT:=(0,[],0,0,0,false)
def aWK (f:Nat) (v:Int):Int:=if (f:Int)=1 then -v else v
theorem aVy (s:List UInt8) (neg:Nat) (len:Int) (hl:s.length≤2000000):∀ (m i:Nat) (v:Int),s.length=i+m→0≤v→v≤1073741824→Dg (s.drop i)→Ev (fun K=>gB K (neg:Int) len v s (i:Int)) (if 1073741824<fv v (s.drop i) then bFM else (2,xY (aWK neg (fv v (s.drop i))),aWK neg (fv v (s.drop i)),0,len,true)):=by
 intro m
 induction m with
 | zero =>
  intro i v hi hv hv2 _
  have e:s.drop i=[]:=List.drop_of_length_le (by omega)
  rw [e]
  show Ev _ (if 1073741824<v then bFM else (2,xY (aWK neg v),aWK neg v,0,len,true))
  rw [if_neg (by omega)]
  refine Ev.step (fun k=>by rw [gB]) ?_
  refine Ev.dF (by simp; omega) ?_
  unfold aWK
  refine Ev.d (fun h=>?_) (fun h=>?_)
  ·rw [if_pos h,fP (by omega) (by omega),show 0 - v=-v by omega]
   exact Ev.bind (aEH _ (by omega)) Ev.pure
  ·rw [if_neg h]
   exact Ev.bind (aEH _ (by omega)) Ev.pure
 | succ m ih =>
  intro i v hi hv hv2 hd
  have hlt:i<s.length:=by omega
  have hd0:=kM hlt
  rw [hd0] at hd
  have hb:=hd _ List.mem_cons_self
  have hd':Dg (s.drop (i+1)):=fun c hc=>hd c (List.mem_cons_of_mem _ hc)
  have hg:=aZ0 (s.drop (i+1)) (10 * v+((s[i].toNat:Int) - 48)) (by omega) hd'
  have ef:fv v (s.drop i)=fv (10 * v+((s[i].toNat:Int) - 48)) (s.drop (i+1)):=by rw [hd0]; rfl
  refine Ev.step (fun k=>by rw [gB]) ?_
  simp only [Int.toNat_natCast,mC]
  rw [ef,hd0,pZ (by omega)]
  refine Ev.dT (by omega) ?_
  rw [wrap32 (x:=((s[i].toNat:Nat):Int) - 48) (by omega) (by omega),fP (x:=10 * v) (by omega) (by omega),fP (x:=((s[i].toNat:Nat):Int) - 48) (by omega) (by omega),fP (x:=10 * v+(((s[i].toNat:Nat):Int) - 48)) (by omega) (by omega)]
  refine Ev.d (fun h=>?_) (fun h=>?_)
  ·rw [if_pos (by omega)]; exact Ev.pure
  ·exact ih (i+1) _ (by omega) (by omega) (by omega) hd'
def nuS (s:List UInt8) (f:Nat):aYT :=
 if sp dgR (s.drop f)=0∨0<sp rS (s.drop (f+sp dgR (s.drop f)))∨1073741824<fv 0 ((s.drop f).take (sp dgR (s.drop f))) then bFM
 else (2,xY (aWK f (fv 0 ((s.drop f).take (sp dgR (s.drop f))))),aWK f (fv 0 ((s.drop f).take (sp dgR (s.drop f)))),0,((f+sp dgR (s.drop f):Nat):Int),true)
theorem aU0 {s:List UInt8} {f:Nat} (hs:s.length≤2000000) (hf:f≤s.length):Ev (fun K=>iV K s (f:Int)) (nuS s f):=by
 refine Ev.step (fun k=>by rw [iV]) ?_
 refine Ev.opt (aGb hf) ?_
 refine Ev.bind (bG7 _) ?_
 have hle:=aL5 (p:=dgR) (s.drop f)
 have hdg:=bFG (s.drop f)
 unfold nuS
 generalize sp dgR (s.drop f)=k at *
 rw [List.length_drop] at hle
 rw [fP (by omega) (by omega),show (f:Int)+(k:Int)=((f+k:Nat):Int) by omega]
 refine Ev.d (fun h=>?_) (fun h=>?_)
 ·rw [if_pos (.inl (by omega))]; exact Ev.pure
 refine Ev.opt (aGb (by omega)) ?_
 refine Ev.bind (aX6 _) ?_
 generalize sp rS (s.drop (f+k))=q
 refine Ev.d (fun h2=>?_) (fun h2=>?_)
 ·rw [if_pos (.inr (.inl (by omega)))]; exact Ev.pure
 have sb:=vH (l:=s) (a:=f) (b:=f+k) (by omega) (by omega)
 rw [show (s.take (f+k)).drop f=(s.drop f).take k by rw [List.drop_take]; congr 1; omega] at sb
 refine Ev.opt sb ?_
 generalize hD:(s.drop f).take k=D at *
 have hDl:D.length≤2000000:=by rw [← hD,List.length_take]; omega
 have:=aVy D f ((f+k:Nat):Int) hDl D.length 0 0 (by omega) (by omega) (by omega) (by rw [List.drop_zero]; exact hdg)
 rw [List.drop_zero] at this
 refine Ev.cast this ?_
 by_cases hv:1073741824<fv 0 D
 ·rw [if_pos hv,if_pos (.inr (.inr hv))]
 ·rw [if_neg hv,if_neg (fun h3=>by omega)]
def aFG (s:List UInt8):aYT:=if cls (((dc s).1:Nat):Int)=1 then lnS s else if cls (((dc s).1:Nat):Int)=2 then nuS s 0 else if s.head?=some 126 then nuS s 1 else fnd aLA s
theorem bFK {s:List UInt8} (hs:s.length≤2000000) (h0:s≠[]):Ev (fun K=>nH K s) (aFG s):=by
 obtain ⟨b,t,rfl⟩:∃ b t,s=b :: t:=by cases s with | nil=>exact absurd rfl h0 | cons b t=>exact ⟨b,t,rfl⟩
 have hg:aZ (b :: t) 0=some b:=rfl
 have hnum:∀ f,f≤(b :: t).length→(b.toNat=126↔f=1)→(f=0∨f=1)→Ev (fun K=>oP K (b :: t)) (nuS (b :: t) f):=fun f hf hb h01=>by
  refine Ev.congr (f:=fun K=>_) ?_ (fun K=>by rw [oP])
  refine Ev.opt hg ?_
  refine Ev.d (fun h=>?_) (fun h=>?_)
  ·obtain rfl:=hb.1 (by omega)
   exact aU0 hs hf
  ·obtain rfl:f=0:=by
    rcases h01 with h | h'
    ·exact h
    ·exact absurd (hb.2 h') (by omega)
   exact aU0 hs hf
 refine Ev.congr (f:=fun K=>_) ?_ (fun K=>by rw [nH])
 refine Ev.bind (aJs h0) ?_
 refine Ev.bind (qH _) ?_
 unfold aFG
 refine Ev.d (fun h=>?_) (fun h=>?_)
 ·rw [if_pos h]
  exact Ev.bind (bEg hs) Ev.pure
 rw [if_neg h]
 refine Ev.d (fun h2=>?_) (fun h2=>?_)
 ·rw [if_pos h2]
  refine Ev.bind (hnum 0 (Nat.zero_le _) ⟨fun e=>?_,fun e=>absurd e (by decide)⟩ (.inl rfl)) Ev.pure
  exfalso
  rw [pZ (by omega)] at h2
  have:=aZQ h2
  simp only at this
  omega
 rw [if_neg h2]
 refine Ev.opt hg ?_
 refine Ev.d (fun h3=>?_) (fun h3=>?_)
 ·have e:b=126:=UInt8.toNat_inj.1 (by show b.toNat=126; omega)
  rw [if_pos (by rw [e]; rfl)]
  exact Ev.bind (hnum 1 (by simp) ⟨fun _=>rfl,fun _=>by omega⟩ (.inr rfl)) Ev.pure
 ·rw [if_neg (fun e=>h3 (by rw [show b=126 from Option.some.inj e]; rfl))]
  refine Ev.opt (aWQ 0) ?_
  have:=aMc (b :: t) aLA (by decide) aLA.length 0 (by omega)
  rw [List.drop_zero] at this
  exact this
end Go.Proofs.YtjhfgiieicloeaaGreatDoor

/- The lexer: a text's tokens. -/
namespace Go.Proofs.YtjhfgiieicloeaaGreatDoor
open Go Go.Am Go.Sx
def TkG (x:Wd) (v:Int):Prop:=(x.1=3∧(x.2∈aNI∨x.2∈aLA)∧v=0)∨(x.1=1∧(∃ p r,x.2=p++lj r∧fH p=true∧(∀ q∈r,fH q=true)∧x.2.length≤128)∧v=0)∨(x.1=2∧x.2=xY v∧-1073741824≤v∧v≤1073741824)
theorem bFJ:∀ (n:Nat) (ok:Bool) (t:List UInt8),(lgF n ok t).2=true→ok=true∧∃ r,t.take (lgF n ok t).1=lj r∧∀ q∈r,fH q=true:=by
 intro n
 induction n with
 | zero=>intro ok t h; exact absurd (show false=true from h) (by decide)
 | succ n ih =>
  intro ok t
  unfold lgF
  by_cases h:ok=true∧t.head?=some 46
  ·rw [if_pos h]
   obtain ⟨b,u,rfl⟩:∃ b u,t=b :: u:=by cases t with | nil=>exact absurd h.2 (by simp) | cons b u=>exact ⟨b,u,rfl⟩
   obtain rfl:b=46:=Option.some.inj h.2
   show _→_
   intro h2
   obtain ⟨c,r,e,hr⟩:=ih _ _ h2
   refine ⟨h.1,u.take (sp rS u) :: r,?_,fun q hq=>?_⟩
   ·show (46 :: u).take _=46 :: (u.take (sp rS u)++lj r)
    rw [← e]
    simp only [List.drop_succ_cons,List.drop_zero]
    generalize (lgF n (fH (List.take (sp rS u) u)) (List.drop (1+sp rS u) (46 :: u))).1=m
    rw [show 1+sp rS u+m=(sp rS u+m)+1 by omega,List.take_succ_cons,List.take_add,show 1+sp rS u=sp rS u+1 by omega,List.drop_succ_cons]
   ·rcases List.mem_cons.1 hq with rfl | hq
    ·exact c
    ·exact hr q hq
  ·rw [if_neg h]
   show ok=true→_
   intro h2
   refine ⟨h2,[],rfl,fun q hq=>by cases hq⟩
theorem bEY {r:Int} (h:cls r=1):rS r=true:=by unfold rS; rw [h]; rfl
theorem bDg {l:List (List UInt8)} {s:List UInt8} (h:(fnd l s).2.2.2.2.2=true):∃ x,x∈l∧x.isPrefixOf s=true∧fnd l s=(3,x,0,0,((x.length:Nat):Int),true):=by
 unfold fnd at h ⊢
 cases hf:l.find? (fun x=>x.isPrefixOf s) with
 | none=>rw [hf] at h; exact absurd h (by decide)
 | some x=>exact ⟨x,List.mem_of_find?_eq_some hf,List.find?_some (p:=fun x:List UInt8=>x.isPrefixOf s) hf,rfl⟩
theorem bDM:∀ x∈aLA,1≤x.length:=by decide
theorem aPp {s:List UInt8} (h0:s≠[]) (h:(aFG s).2.2.2.2.2=true):∃ (k:Int) (x:List UInt8) (v:Int) (n:Nat),aFG s=(k,x,v,0,(n:Int),true)∧1≤n∧n≤s.length∧TkG (k,x) v:=by
 have hnum:∀ f,f≤s.length→(nuS s f).2.2.2.2.2=true→∃ (k:Int) (x:List UInt8) (v:Int) (n:Nat),nuS s f=(k,x,v,0,(n:Int),true)∧1≤n∧n≤s.length∧TkG (k,x) v:=fun f hf h=>by
  have hdg:=bFG (s.drop f)
  have hle:=aL5 (p:=dgR) (s.drop f)
  rw [List.length_drop] at hle
  unfold nuS at h ⊢
  generalize sp dgR (s.drop f)=k at *
  by_cases hc:k=0∨0<sp rS (s.drop (f+k))∨1073741824<fv 0 ((s.drop f).take k)
  ·rw [if_pos hc] at h; exact absurd h (by decide)
  ·rw [if_neg hc]
   have hg:=aZ0 _ 0 (by omega) hdg
   refine ⟨_,_,_,_,rfl,by omega,by omega,.inr (.inr ⟨rfl,rfl,?_⟩)⟩
   unfold aWK
   split <;> omega
 unfold aFG at h ⊢
 by_cases c1:cls (((dc s).1:Nat):Int)=1
 ·rw [if_pos c1] at h ⊢
  have hp:=(bB5 (p:=rS) h0).1 (bEY c1)
  have hle:=aL5 (p:=rS) s
  unfold lnS at h ⊢
  by_cases hw:s.take (sp rS s)∈aNI∧(s.drop (sp rS s)).head?≠some 46
  ·rw [if_pos hw] at h ⊢
   exact ⟨_,_,_,_,rfl,hp,hle,.inl ⟨rfl,.inl hw.1,rfl⟩⟩
  ·rw [if_neg hw] at h ⊢
   have hl:=bBu (s.length+1) (fH (s.take (sp rS s))) (s.drop (sp rS s))
   have ho:=bFJ (s.length+1) (fH (s.take (sp rS s))) (s.drop (sp rS s))
   generalize lgF (s.length+1) (fH (s.take (sp rS s))) (s.drop (sp rS s))=g at *
   rw [List.length_drop] at hl
   simp only [Bool.and_eq_true,decide_eq_true_eq] at h
   obtain ⟨hc,r,hr,hq⟩:=ho h.1
   refine ⟨1,s.take (sp rS s+g.1),0,sp rS s+g.1,?_,by omega,by omega,.inr (.inl ⟨rfl,⟨s.take (sp rS s),r,?_,hc,hq,?_⟩,rfl⟩)⟩
   ·rw [h.1,decide_eq_true h.2]; rfl
   ·show s.take (sp rS s+g.1)=_
    rw [List.take_add,hr]
   ·show (s.take (sp rS s+g.1)).length≤128
    rw [List.length_take]; omega
 rw [if_neg c1] at h ⊢
 by_cases c2:cls (((dc s).1:Nat):Int)=2
 ·rw [if_pos c2] at h ⊢
  exact hnum 0 (Nat.zero_le _) h
 rw [if_neg c2] at h ⊢
 by_cases c3:s.head?=some 126
 ·rw [if_pos c3] at h ⊢
  exact hnum 1 (by cases s with | nil=>exact absurd rfl h0 | cons=>simp) h
 rw [if_neg c3] at h ⊢
 obtain ⟨x,h1,h2,h3⟩:=bDg h
 rw [h3]
 have:=(List.isPrefixOf_iff_prefix.1 h2).length_le
 exact ⟨_,_,_,_,rfl,bDM x h1,this,.inl ⟨rfl,.inr h1,rfl⟩⟩
def lxF:Nat→List UInt8→Nat→List aF→List aF×Int×Int
 | 0,_,i,_=>([],(i:Int),5)
 | n+1,s,i,acc =>
  if s=[] then (acc,0,0)
  else if cls (((dc s).1:Nat):Int)=3 then lxF n (s.drop (dc s).2) (i+(dc s).2) acc
  else if List.isPrefixOf [40,42] s=true then (if cmt s=0 then ([],(i:Int),5) else lxF n (s.drop (cmt s)) (i+cmt s) acc)
  else if (aFG s).2.2.2.2.2=true then lxF n (s.drop (aFG s).2.2.2.2.1.toNat) (i+(aFG s).2.2.2.2.1.toNat) (acc++[((aFG s).1,(aFG s).2.1,(aFG s).2.2.1,(i:Int))])
  else ([],(i:Int),5)
theorem aSF:∀ (n m:Nat) (s:List UInt8) (i:Nat) (acc:List aF),s.length<n→s.length<m→lxF n s i acc=lxF m s i acc:=by
 intro n
 induction n with
 | zero=>intro m s i acc h; omega
 | succ n ih =>
  intro m s i acc h h'
  cases m with
  | zero=>omega
  | succ m =>
   unfold lxF
   by_cases e:s=[]
   ·rw [if_pos e,if_pos e]
   rw [if_neg e,if_neg e]
   have h1:1≤s.length:=by cases s with | nil=>exact absurd rfl e | cons=>simp
   by_cases c1:cls (((dc s).1:Nat):Int)=3
   ·rw [if_pos c1,if_pos c1]
    have:=oD s
    exact ih _ _ _ _ (by rw [List.length_drop]; omega) (by rw [List.length_drop]; omega)
   rw [if_neg c1,if_neg c1]
   by_cases c2:List.isPrefixOf [40,42] s=true
   ·rw [if_pos c2,if_pos c2]
    by_cases c3:cmt s=0
    ·rw [if_pos c3,if_pos c3]
    ·rw [if_neg c3,if_neg c3]
     exact ih _ _ _ _ (by rw [List.length_drop]; omega) (by rw [List.length_drop]; omega)
   rw [if_neg c2,if_neg c2]
   by_cases c4:(aFG s).2.2.2.2.2=true
   ·rw [if_pos c4,if_pos c4]
    obtain ⟨k,x,v,q,e4,h4,_⟩:=aPp e c4
    rw [e4]
    simp only [Int.toNat_natCast]
    exact ih _ _ _ _ (by rw [List.length_drop]; omega) (by rw [List.length_drop]; omega)
   ·rw [if_neg c4,if_neg c4]
def lxS (s:List UInt8) (i:Nat) (acc:List aF):List aF×Int×Int:=lxF (s.length+1) s i acc
theorem aGo (i:Nat) (acc:List aF):lxS [] i acc=(acc,0,0):=by
 show lxF 1 [] i acc=_
 unfold lxF
 rw [if_pos rfl]
section
variable {s:List UInt8} (h0:s≠[])
include h0
theorem aNb (i:Nat) (acc:List aF) (c:cls (((dc s).1:Nat):Int)=3):lxS s i acc=lxS (s.drop (dc s).2) (i+(dc s).2) acc:=by
 have h1:1≤s.length:=by cases s with | nil=>exact absurd rfl h0 | cons=>simp
 have:=oD s
 unfold lxS
 rw [lxF,if_neg h0,if_pos c]
 exact aSF _ _ _ _ _ (by rw [List.length_drop]; omega) (by omega)
variable (c1:¬ cls (((dc s).1:Nat):Int)=3)
include c1
theorem aM4 (i:Nat) (acc:List aF) (c2:List.isPrefixOf [40,42] s=true):lxS s i acc=if cmt s=0 then ([],(i:Int),5) else lxS (s.drop (cmt s)) (i+cmt s) acc:=by
 have h1:1≤s.length:=by cases s with | nil=>exact absurd rfl h0 | cons=>simp
 unfold lxS
 rw [lxF,if_neg h0,if_neg c1,if_pos c2]
 by_cases c3:cmt s=0
 ·rw [if_pos c3,if_pos c3]
 ·rw [if_neg c3,if_neg c3]
  exact aSF _ _ _ _ _ (by rw [List.length_drop]; omega) (by omega)
theorem aPQ (i:Nat) (acc:List aF) (c2:List.isPrefixOf [40,42] s=false) {k v:Int} {x:List UInt8} {n:Nat} (e:aFG s=(k,x,v,0,(n:Int),true)):lxS s i acc=lxS (s.drop n) (i+n) (acc++[(k,x,v,(i:Int))]):=by
 have h1:1≤s.length:=by cases s with | nil=>exact absurd rfl h0 | cons=>simp
 have c4:(aFG s).2.2.2.2.2=true:=by rw [e]
 obtain ⟨k',x',v',q,e4,h4,_⟩:=aPp h0 c4
 rw [e] at e4
 have:n=q:=by
  have:=congrArg (fun r:aYT=>r.2.2.2.2.1) e4
  simp only at this
  omega
 unfold lxS
 rw [lxF,if_neg h0,if_neg c1,if_neg (by rw [c2]; decide),if_pos c4,e]
 simp only [Int.toNat_natCast]
 exact aSF _ _ _ _ _ (by rw [List.length_drop]; omega) (by omega)
theorem aWj (i:Nat) (acc:List aF) (c2:List.isPrefixOf [40,42] s=false) (e:(aFG s).2.2.2.2.2=false):lxS s i acc=([],(i:Int),5):=by
 unfold lxS
 rw [lxF,if_neg h0,if_neg c1,if_neg (by rw [c2]; decide),if_neg (by rw [e]; decide)]
end
theorem bCJ (acc:List aF):∀ (s:List UInt8),∀ (i:Nat),lxS s i acc=lxS (s.drop (sp blR s)) (i+sp blR s) acc:=by
 refine aHf ?_ fun s h ih i=>?_
 ·intro i; rfl
 ·rw [aGg h]
  by_cases c:blR (((dc s).1:Nat):Int)=true
  ·rw [if_pos c,aNb h i acc (of_decide_eq_true c),ih,List.drop_drop,Nat.add_assoc]
  ·rw [if_neg c]; rfl
theorem bDV {p:Int→Bool} {s:List UInt8} (h0:s≠[]) (h:sp p s=0):¬ p (((dc s).1:Nat):Int)=true:=fun c=>by
 have:=(bB5 (p:=p) h0).1 c
 omega
theorem bH7 (s:List UInt8) (hs:s.length≤2000000):∀ (m i:Nat) (acc:List aF),s.length - i≤m→i≤s.length→acc.length≤i→Ev (fun K=>eW K s acc (i:Int)) (lxS (s.drop i) i acc):=by
 intro m
 induction m with
 | zero =>
  intro i acc hm hi ha
  have e:s.drop i=[]:=List.drop_of_length_le (by omega)
  rw [e,aGo]
  exact Ev.step (fun k=>by rw [eW]) (Ev.dF (by omega) Ev.pure)
 | succ m ih =>
  intro i acc hm hi ha
  by_cases e:s.drop i=[]
  ·rw [e,aGo]
   have:s.length≤i:=List.drop_eq_nil_iff.1 e
   exact Ev.step (fun k=>by rw [eW]) (Ev.dF (by omega) Ev.pure)
  have hlt:i<s.length:=by
   have:=mt List.drop_eq_nil_iff.2 e
   omega
  have hlen:(s.drop i).length=s.length - i:=List.length_drop
  refine Ev.step (fun k=>by rw [eW]) ?_
  refine Ev.dT (by omega) ?_
  refine Ev.opt (aGb hi) ?_
  refine Ev.bind (bHg _) ?_
  refine Ev.d (fun hb=>?_) (fun hb=>?_)
  ·have hle:=aL5 (p:=blR) (s.drop i)
   have nxt:=ih (i+sp blR (s.drop i)) acc (by omega) (by omega) (by omega)
   rw [bCJ,List.drop_drop]
   rw [fP (by omega) (by omega),show (i:Int)+((sp blR (s.drop i):Nat):Int)=((i+sp blR (s.drop i):Nat):Int) by omega]
   exact nxt
  have hc:=bDV (p:=blR) e (by omega)
  have c1:¬ cls (((dc (s.drop i)).1:Nat):Int)=3:=fun h=>hc (decide_eq_true h)
  refine Ev.bind (aHB _ _) ?_
  cases c2:List.isPrefixOf [40,42] (s.drop i) with
  | true =>
   refine Ev.isT rfl ?_
   refine Ev.bind (bHp (by omega) c2) ?_
   rw [aM4 e c1 i acc c2]
   refine Ev.d (fun h=>?_) (fun h=>?_)
   ·rw [if_pos (by omega)]; exact Ev.pure
   ·have hbd:=aY9 ((s.drop i).length+1) 0 (s.drop i) 0
    have h':cmt (s.drop i)≠0:=by omega
    have hbd:=hbd h'
    have e2:cmF ((s.drop i).length+1) 0 (s.drop i) 0=cmt (s.drop i):=rfl
    rw [e2] at hbd
    rw [if_neg h',List.drop_drop]
    rw [fP (by omega) (by omega),show (i:Int)+((cmt (s.drop i):Nat):Int)=((i+cmt (s.drop i):Nat):Int) by omega]
    exact ih (i+cmt (s.drop i)) acc (by omega) (by omega) (by omega)
  | false =>
   refine Ev.isF rfl ?_
   refine Ev.bind (bFK (by omega) e) ?_
   cases c4:(aFG (s.drop i)).2.2.2.2.2 with
   | false =>
    rw [aWj e c1 i acc c2 c4]
    generalize aFG (s.drop i)=g at *
    obtain ⟨a1,a2,a3,a4,a5,a6⟩:=g
    simp only at c4
    subst c4
    exact Ev.isT rfl Ev.pure
   | true =>
    obtain ⟨k,x,v,n,e4,h4,h5,_⟩:=aPp e c4
    rw [aPQ e c1 i acc c2 e4,e4]
    refine Ev.isF rfl ?_
    refine Ev.step (F:=fun K=>sV K s acc (i:Int) (n:Int) k x v 0) (fun k=>by rw [sV]) ?_
    refine Ev.opt (dP (by simp; omega)) ?_
    rw [fP (by omega) (by omega),show (i:Int)+(n:Int)=((i+n:Nat):Int) by omega,List.drop_drop]
    exact ih (i+n) _ (by omega) (by omega) (by simp; omega)
theorem aM0 {s:List UInt8} (hs:s.length≤16384):(Rk s∧Ev (fun K=>qJ K s) (lxS s 0 []))∨(¬ Rk s∧∃ j:Nat,j≤s.length∧Ev (fun K=>qJ K s) ([],(j:Int),4)):=by
 rcases aVn hs with ⟨a,b⟩ | ⟨a,j,b,c⟩
 ·refine .inl ⟨a,Ev.congr (f:=fun K=>_) (Ev.bind b (Ev.nF rfl ?_)) (fun K=>by rw [qJ])⟩
  exact bH7 s (by omega) s.length 0 [] (by omega) (by omega) (by simp)
 ·refine .inr ⟨a,j,b,Ev.congr (f:=fun K=>_) (Ev.bind c ?_) (fun K=>by rw [qJ])⟩
  exact Ev.nT (show ¬ (4:Int)=0 by decide) Ev.pure
def LxB (s:List UInt8) (i:Nat) (acc:List aF):Prop :=
  ((lxS s i acc).2.2=0∧(lxS s i acc).2.1=0∧∃ l,(lxS s i acc).1=acc++l∧l.length≤s.length∧∀ t∈l,TkG (t.1,t.2.1) t.2.2.1∧(i:Int)≤t.2.2.2∧t.2.2.2<((i+s.length:Nat):Int)) ∨
  (∃ j:Nat,lxS s i acc=([],(j:Int),5)∧j≤i+s.length)
theorem aYG:∀ (m:Nat) (s:List UInt8) (i:Nat) (acc:List aF),s.length≤m→LxB s i acc:=by
 intro m
 induction m with
 | zero =>
  intro s i acc h
  obtain rfl:=List.length_eq_zero_iff.1 (Nat.le_zero.1 h)
  exact .inl (by rw [aGo]; exact ⟨rfl,rfl,[],by simp,Nat.le_refl _,fun t ht=>by cases ht⟩)
 | succ m ih =>
  intro s i acc h
  by_cases e:s=[]
  ·subst e
   exact .inl (by rw [aGo]; exact ⟨rfl,rfl,[],by simp,Nat.le_refl _,fun t ht=>by cases ht⟩)
  have h1:1≤s.length:=by cases s with | nil=>exact absurd rfl e | cons=>simp
  have far:∀ n,1≤n→n≤s.length→lxS s i acc=lxS (s.drop n) (i+n) acc→LxB s i acc:=fun n hn1 hn2 he=>by
   have q:=ih (s.drop n) (i+n) acc (by rw [List.length_drop]; omega)
   unfold LxB at q
   rw [← he,List.length_drop] at q
   rcases q with ⟨a,b,l,c,d,f⟩ | ⟨j,a,b⟩
   ·exact .inl ⟨a,b,l,c,by omega,fun t ht=>⟨(f t ht).1,by have:=(f t ht).2; omega,by have:=(f t ht).2; omega⟩⟩
   ·exact .inr ⟨j,a,by omega⟩
  by_cases c1:cls (((dc s).1:Nat):Int)=3
  ·exact far _ (oD s) (aOt e) (aNb e i acc c1)
  cases c2:List.isPrefixOf [40,42] s with
  | true =>
   by_cases c3:cmt s=0
   ·exact .inr ⟨i,by rw [aM4 e c1 i acc c2,if_pos c3],by omega⟩
   ·have hbd:=aY9 (s.length+1) 0 s 0 c3
    have e2:cmF (s.length+1) 0 s 0=cmt s:=rfl
    rw [e2] at hbd
    exact far (cmt s) (by omega) (by omega) (by rw [aM4 e c1 i acc c2,if_neg c3])
  | false =>
   cases c4:(aFG s).2.2.2.2.2 with
   | false=>exact .inr ⟨i,aWj e c1 i acc c2 c4,by omega⟩
   | true =>
    obtain ⟨k,x,v,n,e4,h4,h5,h6⟩:=aPp e c4
    have q:=ih (s.drop n) (i+n) (acc++[(k,x,v,(i:Int))]) (by rw [List.length_drop]; omega)
    unfold LxB at q
    rw [← aPQ e c1 i acc c2 e4,List.length_drop] at q
    rcases q with ⟨a,b,l,c,d,f⟩ | ⟨j,a,b⟩
    ·refine .inl ⟨a,b,(k,x,v,(i:Int)) :: l,by rw [c]; simp,by simp only [List.length_cons]; omega,fun t ht=>?_⟩
     rcases List.mem_cons.1 ht with rfl | ht
     ·exact ⟨h6,by simp only; omega,by simp only; omega⟩
     ·exact ⟨(f t ht).1,by have:=(f t ht).2; omega,by have:=(f t ht).2; omega⟩
    ·exact .inr ⟨j,a,by omega⟩
end Go.Proofs.YtjhfgiieicloeaaGreatDoor

/- The lexer: what stands behind a line's end changes nothing ahead of it; a token is told by what stands there, wherever that is. -/
namespace Go.Proofs.YtjhfgiieicloeaaGreatDoor
open Go Go.Am Go.Sx
section
variable (b:List UInt8)
theorem aST {s:List UInt8} (h:s≠[]):dc (s++10 :: b)=dc s:=by
 have h1:1≤s.length:=by cases s with | nil=>exact absurd rfl h | cons=>simp
 have e:∀ j,j<s.length→(s++10 :: b)[j]! = s[j]!:=fun j hj=>aJ7 hj
 have fin:∀ j,s.length=j→(s++10 :: b)[j]! = 10:=fun j hj=>by
  subst hj
  rw [getElem!_pos _ s.length (by simp),List.getElem_append_right (Nat.le_refl _)]
  simp
 have hl:(s++10 :: b).length=s.length+(b.length+1):=by simp
 have n10:¬ ((10:UInt8).toNat / 64=2):=by decide
 have k:∀ j,1≤j→j - 1<s.length→((j<s.length+(b.length+1)∧(s++10 :: b)[j]!.toNat / 64=2)↔(j<s.length∧s[j]!.toNat / 64=2)):=fun j h1 h2=>by
  by_cases hj:j<s.length
  ·rw [e j hj]; exact ⟨fun h=>⟨hj,h.2⟩,fun h=>⟨by omega,h.2⟩⟩
  ·have:s.length=j:=by omega
   rw [fin j this]; exact ⟨fun h=>absurd h.2 n10,fun h=>absurd h.1 hj⟩
 have k1:=k 1 (by omega) (by omega)
 unfold dc Lib.decodeN
 rw [e 0 (by omega),hl]
 generalize s[0]!.toNat=b0
 by_cases c0:b0<128
 ·rw [if_pos c0,if_pos c0]
 rw [if_neg c0,if_neg c0]
 by_cases c1:b0 / 32=6∧(1<s.length∧s[1]!.toNat / 64=2)
 ·rw [if_pos c1,if_pos ⟨c1.1,k1.2 c1.2⟩,e 1 c1.2.1]
 rw [if_neg c1,if_neg (fun h=>c1 ⟨h.1,k1.1 h.2⟩)]
 by_cases c2:b0 / 16=14∧(1<s.length∧s[1]!.toNat / 64=2)∧(2<s.length∧s[2]!.toNat / 64=2)
 ·have k2:=k 2 (by omega) (by omega)
  rw [if_pos c2,if_pos ⟨c2.1,k1.2 c2.2.1,k2.2 c2.2.2⟩,e 1 c2.2.1.1,e 2 c2.2.2.1]
 rw [if_neg c2,if_neg (fun h=>c2 ⟨h.1,k1.1 h.2.1,(k 2 (by omega) (by have:=(k1.1 h.2.1).1; omega)).1 h.2.2⟩)]
 by_cases c3:b0 / 8=30∧(1<s.length∧s[1]!.toNat / 64=2)∧(2<s.length∧s[2]!.toNat / 64=2)∧(3<s.length∧s[3]!.toNat / 64=2)
 ·have k2:=k 2 (by omega) (by omega)
  have k3:=k 3 (by omega) (by omega)
  rw [if_pos c3,if_pos ⟨c3.1,k1.2 c3.2.1,k2.2 c3.2.2.1,k3.2 c3.2.2.2⟩,e 1 c3.2.1.1,e 2 c3.2.2.1.1,e 3 c3.2.2.2.1]
 rw [if_neg c3,if_neg (fun h=>by
  have q1:=k1.1 h.2.1
  have q2:=(k 2 (by omega) (by omega)).1 h.2.2.1
  have q3:=(k 3 (by omega) (by omega)).1 h.2.2.2
  exact c3 ⟨h.1,q1,q2,q3⟩)]
theorem aVv {p:Int→Bool} (hp:p 10=false):∀ s,sp p (s++10 :: b)=sp p s:=by
 refine aHf ?_ fun s h ih=>?_
 ·have e:dc (10 :: b)=(10,1):=pZ (by decide)
  rw [List.nil_append,aGg (by simp),e,if_neg (by show ¬ p 10=true; rw [hp]; decide)]
  rfl
 ·rw [aGg (s:=s++10 :: b) (by simp),aGg h,aST b h,aBz (aOt h),ih]
theorem aN2:∀ (x s:List UInt8),(10:UInt8)∉x→List.isPrefixOf x (s++10 :: b)=List.isPrefixOf x s
 | [],s,_=>by cases s <;> rfl
 | c :: x,[],h=>by
  show (c == 10 && List.isPrefixOf x b)=false
  rw [show (c == (10:UInt8))=false from beq_eq_false_iff_ne.2 fun e=>h (e ▸ List.mem_cons_self)]
  rfl
 | c :: x,d :: s,h=>by
  show (c == d && List.isPrefixOf x (s++10 :: b))=(c == d && List.isPrefixOf x s)
  rw [aN2 x s fun hm=>h (List.mem_cons_of_mem _ hm)]
theorem aN7 {s q:List UInt8} {n:Nat} (h:n≤s.length):(s++q).take n=s.take n:=List.take_append_of_le_length h
theorem bDI:∀ (n m:Nat) (ok:Bool) (t:List UInt8),t.length<n→n≤m→lgF m ok (t++10 :: b)=lgF n ok t:=by
 intro n
 induction n with
 | zero=>intro m ok t h; omega
 | succ n ih =>
  intro m ok t h hm
  obtain ⟨m,rfl⟩:∃ q,m=q+1:=⟨m - 1,by omega⟩
  unfold lgF
  cases t with
  | nil =>
   rw [if_neg (fun h=>by simp at h),if_neg (fun h=>by simp at h)]
  | cons c u =>
   by_cases hc:ok=true∧c=46
   ·obtain ⟨h1,rfl⟩:=hc
    rw [if_pos ⟨h1,rfl⟩,if_pos ⟨h1,rfl⟩]
    have hk:=aL5 (p:=rS) u
    simp only [List.cons_append,List.drop_succ_cons,List.drop_zero]
    rw [aVv b (by decide),aN7 hk]
    have e:∀ v:List UInt8,List.drop (1+sp rS u) (46 :: v)=v.drop (sp rS u):=fun v=>by rw [Nat.add_comm,List.drop_succ_cons]
    rw [e,e,aBz hk,ih m _ _ (by rw [List.length_drop]; simp only [List.length_cons] at h; omega) (by omega)]
   ·rw [if_neg (fun h=>hc ⟨h.1,Option.some.inj h.2⟩),if_neg (fun h=>hc ⟨h.1,Option.some.inj h.2⟩)]
theorem aWW {t:List UInt8}:((t++10 :: b).head?≠some 46)↔(t.head?≠some 46):=by
 cases t with
 | nil=>simp
 | cons c u=>exact Iff.rfl
theorem bD6 (s:List UInt8):lnS (s++10 :: b)=lnS s:=by
 have hk:=aL5 (p:=rS) s
 unfold lnS
 rw [aVv b (p:=rS) (by decide),aN7 hk,aBz hk]
 have hl:(s++10 :: b).length=s.length+(b.length+1):=by simp
 have eg:=bDI b (s.length+1) ((s++10 :: b).length+1) (fH (s.take (sp rS s))) (s.drop (sp rS s)) (by rw [List.length_drop]; omega) (by omega)
 have hg:=bBu (s.length+1) (fH (s.take (sp rS s))) (s.drop (sp rS s))
 rw [List.length_drop] at hg
 rw [eg,aN7 (n:=sp rS s+_) (by omega)]
 by_cases hc:s.take (sp rS s)∈aNI∧(s.drop (sp rS s)).head?≠some 46
 ·rw [if_pos hc,if_pos ⟨hc.1,(aWW b).2 hc.2⟩]
 ·rw [if_neg hc,if_neg (fun h=>hc ⟨h.1,(aWW b).1 h.2⟩)]
theorem aZR {s:List UInt8} {f:Nat} (hf:f≤s.length):nuS (s++10 :: b) f=nuS s f:=by
 have hk:=aL5 (p:=dgR) (s.drop f)
 have hk2:=hk
 rw [List.length_drop] at hk
 unfold nuS
 rw [aBz hf,aVv b (p:=dgR) (by decide),aBz (by omega),aVv b (p:=rS) (by decide),aN7 hk2]
theorem aXt {s:List UInt8}:∀ l:List (List UInt8),(∀ x∈l,(10:UInt8)∉x)→l.find? (fun x=>x.isPrefixOf (s++10 :: b))=l.find? (fun x=>x.isPrefixOf s)
 | [],_=>rfl
 | x :: l,h=>by rw [List.find?_cons,List.find?_cons,aN2 b x s (h x List.mem_cons_self),aXt l fun y hy=>h y (List.mem_cons_of_mem _ hy)]
theorem bCh {s:List UInt8} (h:s≠[]):aFG (s++10 :: b)=aFG s:=by
 have hh:(s++10 :: b).head?=s.head?:=by cases s with | nil=>exact absurd rfl h | cons=>rfl
 have h1:1≤s.length:=by cases s with | nil=>exact absurd rfl h | cons=>simp
 unfold aFG
 rw [aST b h,hh,bD6 b s,aZR b (f:=0) (by omega),aZR b h1]
 have hf:fnd aLA (s++10 :: b)=fnd aLA s:=by unfold fnd; rw [aXt b aLA (by decide)]
 rw [hf]
theorem bDE:∀ (n m d:Nat) (s:List UInt8) (i:Nat),n≤m→cmF n d s i≠0→cmF m d (s++10 :: b) i=cmF n d s i:=by
 intro n
 induction n with
 | zero=>intro m d s i _ h; exact absurd rfl h
 | succ n ih =>
  intro m d s i hm
  obtain ⟨m,rfl⟩:∃ q,m=q+1:=⟨m - 1,by omega⟩
  unfold cmF
  by_cases e:s=[]
  ·rw [if_pos e]; exact fun h=>absurd rfl h
  have h1:1≤s.length:=by cases s with | nil=>exact absurd rfl e | cons=>simp
  have hne:¬ (s++10 :: b=[]):=by simp
  rw [if_neg e,if_neg hne,aN2 b _ s (by decide),aN2 b _ s (by decide)]
  by_cases h2:List.isPrefixOf [40,42] s=true
  ·rw [if_pos h2,if_pos h2]
   obtain ⟨t,rfl⟩:=aHD h2
   exact ih m _ _ _ (by omega)
  rw [if_neg h2,if_neg h2]
  by_cases h3:List.isPrefixOf [42,41] s=true
  ·rw [if_pos h3,if_pos h3]
   obtain ⟨t,rfl⟩:=aHD h3
   by_cases hd:d=1
   ·rw [if_pos hd,if_pos hd]; exact fun _=>rfl
   ·rw [if_neg hd,if_neg hd]
    exact ih m _ _ _ (by omega)
  ·rw [if_neg h3,if_neg h3,aBz h1]
   exact ih m _ _ _ (by omega)
theorem bEm {s:List UInt8} (h:cmt s≠0):cmt (s++10 :: b)=cmt s:=bDE b _ _ 0 s 0 (by simp) h
theorem bE3:∀ (k:Nat) (s:List UInt8) (i:Nat) (acc l:List aF),s.length≤k→lxS s i acc=(l,0,0)→lxS (s++10 :: b) i acc=lxS (10 :: b) (i+s.length) l:=by
 intro k
 induction k with
 | zero =>
  intro s i acc l h e
  obtain rfl:=List.length_eq_zero_iff.1 (Nat.le_zero.1 h)
  rw [aGo] at e
  rw [show acc=l from congrArg (·.1) e]; rfl
 | succ k ih =>
  intro s i acc l h e
  by_cases h0:s=[]
  ·subst h0
   rw [aGo] at e
   rw [show acc=l from congrArg (·.1) e]; rfl
  have h1:1≤s.length:=by cases s with | nil=>exact absurd rfl h0 | cons=>simp
  have h0':s++10 :: b≠[]:=by simp
  have ed:=aST b h0
  have step:∀ (n:Nat) (acc':List aF),1≤n→n≤s.length→lxS (s.drop n) (i+n) acc'=(l,0,0)→lxS ((s++10 :: b).drop n) (i+n) acc'=lxS (10 :: b) (i+s.length) l:=fun n acc' n1 n2 e'=>by
   rw [aBz n2,ih _ _ _ l (by rw [List.length_drop]; omega) e',List.length_drop,show i+n+(s.length - n)=i+s.length by omega]
  by_cases c1:cls (((dc s).1:Nat):Int)=3
  ·rw [aNb h0 i acc c1] at e
   rw [aNb h0' i acc (by rw [ed]; exact c1),ed]
   exact step _ _ (oD s) (aOt h0) e
  have c1':¬ cls (((dc (s++10 :: b)).1:Nat):Int)=3:=by rw [ed]; exact c1
  have ep:=aN2 b [40,42] s (by decide)
  cases c2:List.isPrefixOf [40,42] s with
  | true =>
   rw [aM4 h0 c1 i acc c2] at e
   by_cases c3:cmt s=0
   ·rw [if_pos c3] at e; exact absurd (show (5:Int)=0 from congrArg (·.2.2) e) (by decide)
   ·rw [if_neg c3] at e
    have hbd:=aY9 (s.length+1) 0 s 0 c3
    have e2:cmF (s.length+1) 0 s 0=cmt s:=rfl
    rw [e2] at hbd
    rw [aM4 h0' c1' i acc (ep.trans c2),bEm b c3,if_neg c3]
    exact step _ _ (by omega) (by omega) e
  | false =>
   cases c4:(aFG s).2.2.2.2.2 with
   | false=>rw [aWj h0 c1 i acc c2 c4] at e; exact absurd (show (5:Int)=0 from congrArg (·.2.2) e) (by decide)
   | true =>
    obtain ⟨q,x,v,n,e4,h4,h5,h6⟩:=aPp h0 c4
    rw [aPQ h0 c1 i acc c2 e4] at e
    rw [aPQ h0' c1' i acc (ep.trans c2) ((bCh b h0).trans e4)]
    exact step _ _ h4 h5 e
end
def shT (d:Nat) (t:aF):aF:=(t.1,t.2.1,t.2.2.1,t.2.2.2+(d:Int))
theorem bAG (d:Nat):∀ (k:Nat) (s:List UInt8) (i:Nat) (acc l acc':List aF),s.length≤k→lxS s i acc=(acc++l,0,0)→lxS s (i+d) acc'=(acc'++l.map (shT d),0,0):=by
 have nil:∀ (i:Nat) (acc l acc':List aF),lxS [] i acc=(acc++l,0,0)→lxS [] (i+d) acc'=(acc'++l.map (shT d),0,0):=fun i acc l acc' e=>by
  rw [aGo] at e ⊢
  have e:acc=acc++l:=congrArg (·.1) e
  have:l=[]:=List.self_eq_append_right.1 e
  rw [this]; simp
 intro k
 induction k with
 | zero =>
  intro s i acc l acc' h e
  obtain rfl:=List.length_eq_zero_iff.1 (Nat.le_zero.1 h)
  exact nil i acc l acc' e
 | succ k ih =>
  intro s i acc l acc' h e
  by_cases h0:s=[]
  ·subst h0; exact nil i acc l acc' e
  have h1:1≤s.length:=by cases s with | nil=>exact absurd rfl h0 | cons=>simp
  by_cases c1:cls (((dc s).1:Nat):Int)=3
  ·rw [aNb h0 i acc c1] at e
   have:=oD s
   rw [aNb h0 _ acc' c1,Nat.add_right_comm]
   exact ih _ _ acc l acc' (by rw [List.length_drop]; omega) e
  cases c2:List.isPrefixOf [40,42] s with
  | true =>
   rw [aM4 h0 c1 i acc c2] at e
   by_cases c3:cmt s=0
   ·rw [if_pos c3] at e; exact absurd (show (5:Int)=0 from congrArg (·.2.2) e) (by decide)
   ·rw [if_neg c3] at e
    rw [aM4 h0 c1 _ acc' c2,if_neg c3,Nat.add_right_comm]
    exact ih _ _ acc l acc' (by rw [List.length_drop]; omega) e
  | false =>
   cases c4:(aFG s).2.2.2.2.2 with
   | false=>rw [aWj h0 c1 i acc c2 c4] at e; exact absurd (show (5:Int)=0 from congrArg (·.2.2) e) (by decide)
   | true =>
    obtain ⟨q,x,v,n,e4,h4,h5,h6⟩:=aPp h0 c4
    rw [aPQ h0 c1 i acc c2 e4] at e
    rw [aPQ h0 c1 _ acc' c2 e4,Nat.add_right_comm]
    rcases aYG _ (s.drop n) (i+n) (acc++[(q,x,v,(i:Int))]) (Nat.le_refl _) with ⟨_,_,l2,a,_⟩ | ⟨j,a,_⟩
    ·rw [e] at a
     have a:acc++l=acc++[(q,x,v,(i:Int))]++l2:=a
     rw [List.append_assoc] at a
     obtain rfl:=List.append_cancel_left a
     have e':lxS (s.drop n) (i+n) (acc++[(q,x,v,(i:Int))])=(acc++[(q,x,v,(i:Int))]++l2,0,0):=by rw [e]; simp
     have:=ih (s.drop n) (i+n) (acc++[(q,x,v,(i:Int))]) l2 (acc'++[(q,x,v,((i+d:Nat):Int))]) (by rw [List.length_drop]; omega) e'
     rw [this]
     simp [shT]
    ·rw [e] at a; exact absurd (show (0:Int)=5 from congrArg (·.2.2) a) (by decide)
theorem bC0 {s t:List UInt8} {l m:List aF} (h1:lxS s 0 []=(l,0,0)) (h2:lxS t 0 []=(m,0,0)):lxS (s++10 :: t) 0 []=(l++m.map (shT (s.length+1)),0,0):=by
 rw [bE3 t s.length s 0 [] l (Nat.le_refl _) h1]
 have e:dc (10 :: t)=(10,1):=pZ (by decide)
 rw [aNb (by simp) _ _ (by rw [e]; decide),e]
 have:=bAG (s.length+1) t.length t 0 [] m l (Nat.le_refl _) h2
 rw [← this]
 show lxS t _ _=_
 congr 1
theorem bDL {s t:List UInt8} (h1:Rk s) (h2:Rk t):Rk (s++10 :: t):=by
 refine aKS h1 (.cons (by simp) ?_ ?_)
 ·rw [show dc (10 :: t)=(10,1) from pZ (by decide)]; exact ⟨by decide,fun _=>by decide,by decide⟩
 ·rw [show dc (10 :: t)=(10,1) from pZ (by decide)]; exact h2
end Go.Proofs.YtjhfgiieicloeaaGreatDoor

