/- Joined texts: L1, L2, L3, L4. -/
import Derived.Test.YtjhfgiieicloeaaGreatDoorGv
/- The lexer, piece by piece: spans of runes, comments, what may be read. -/
namespace Go.Proofs.YtjhfgiieicloeaaGreatDoor
open Go Go.Am Go.Sx
theorem aHT {P:List UInt8→Prop} (h0:P []) (h1:∀ s,s≠[]→P (s.drop (dc s).2)→P s):∀ s,P s:=by
 have:∀ n s,s.length≤n→P s:=by
  intro n
  induction n with
  | zero =>
   intro s h
   obtain rfl:=List.length_eq_zero_iff.1 (Nat.le_zero.1 h)
   exact h0
  | succ n ih =>
   intro s h
   by_cases e:s=[]
   ·subst e; exact h0
   ·have:=oG s
    exact h1 s e (ih _ (by rw [List.length_drop]; omega))
 exact fun s=>this _ s (Nat.le_refl _)
def spF (p:Int→Bool):Nat→List UInt8→Nat
 | 0,_=>0
 | n+1,s=>if s=[] then 0 else if p (((dc s).1:Nat):Int)=true then (dc s).2+spF p n (s.drop (dc s).2) else 0
theorem aXN (p:Int→Bool):∀ (n m:Nat) (s:List UInt8),s.length≤n→s.length≤m→spF p n s=spF p m s:=by
 intro n
 induction n with
 | zero =>
  intro m s h _
  obtain rfl:=List.length_eq_zero_iff.1 (Nat.le_zero.1 h)
  cases m <;> simp [spF]
 | succ n ih =>
  intro m s h h'
  cases m with
  | zero =>
   obtain rfl:=List.length_eq_zero_iff.1 (Nat.le_zero.1 h')
   simp [spF]
  | succ m =>
   have hw:=oG s
   unfold spF
   by_cases e:s=[]
   ·rw [if_pos e,if_pos e]
   ·rw [if_neg e,if_neg e,ih m (s.drop (dc s).2) (by rw [List.length_drop]; omega) (by rw [List.length_drop]; omega)]
def sp (p:Int→Bool) (s:List UInt8):Nat:=spF p s.length s
section
variable {p:Int→Bool}
theorem bGN:sp p []=0:=rfl
theorem aGw {s:List UInt8} (h:s≠[]):sp p s=if p (((dc s).1:Nat):Int)=true then (dc s).2+sp p (s.drop (dc s).2) else 0:=by
 have hw:=oG s
 have:1≤s.length:=by cases s with | nil=>exact absurd rfl h | cons=>simp
 have e:sp p s=spF p ((s.length - 1)+1) s:=aXN p _ _ s (Nat.le_refl _) (by omega)
 rw [e]
 show (if s=[] then 0 else _)=_
 rw [if_neg h]
 unfold sp
 rw [aXN p (s.length - 1) _ (s.drop (dc s).2) (by rw [List.length_drop]; omega) (Nat.le_refl _)]
theorem aM5:∀ s,sp p s≤s.length:=by
 refine aHT (Nat.le_refl _) fun s h ih=>?_
 rw [aGw h]
 have:=aPz h
 rw [List.length_drop] at ih
 split <;> omega
theorem bDx {s:List UInt8} (h:s≠[]):(p (((dc s).1:Nat):Int)=true→1≤sp p s)∧(p (((dc s).1:Nat):Int)=false→sp p s=0):=by
 rw [aGw h]
 have:=oG s
 exact ⟨fun e=>by rw [if_pos e]; omega,fun e=>by rw [if_neg (by rw [e]; decide)]⟩
theorem bDp {L:Nat→List UInt8→List UInt8→Int→Option Int} {f:Nat→Int→Option Bool}
  (hL:∀ k s w i,L (k+1) s w i=iteS (decide ((i:Int).toNat<w.length)) ((f k (((fL w ((i:Int).toNat)).1:Nat):Int)).bind fun v2=>(iteS (!v2) (some (((i:Int).toNat:Nat):Int)) (L k s w (((i:Int).toNat+(fL w ((i:Int).toNat)).2:Nat):Int)))) (some ((s.length:Nat):Int)))
  (hf:∀ r,Ev (fun K=>f K r) (p r)) (s:List UInt8):Ev (fun K=>L K s s 0) ((sp p s:Nat):Int):=by
 have gen:∀ t,∀ i:Nat,s.drop i=t→i≤s.length→Ev (fun K=>L K s s (i:Int)) ((i+sp p t:Nat):Int):=by
  refine aHT ?_ ?_
  ·intro i hd hi
   have:s.length≤i:=List.drop_eq_nil_iff.1 hd
   refine Ev.step (fun k=>hL k _ _ _) ?_
   refine Ev.dF (by simp only [Int.toNat_natCast]; omega) (Ev.pure' ?_)
   rw [bGN]; omega
  ·intro t ht ih i hd hi
   have hl:=congrArg List.length hd
   rw [List.length_drop] at hl
   have h1:1≤t.length:=by cases t with | nil=>exact absurd rfl ht | cons=>simp
   have hle:=aPz ht
   refine Ev.step (fun k=>hL k _ _ _) ?_
   simp only [Int.toNat_natCast,lU]
   rw [hd]
   refine Ev.dT (by omega) ?_
   refine Ev.bind (hf _) ?_
   rw [aGw ht]
   cases hp:p (((dc t).1:Nat):Int) with
   | true =>
    refine Ev.isF rfl ?_
    rw [if_pos rfl,← Nat.add_assoc]
    exact ih (i+(dc t).2) (by rw [← List.drop_drop,hd]) (by omega)
   | false =>
    refine Ev.isT rfl ?_
    rw [if_neg (by decide)]
    exact Ev.pure
 have:=gen s 0 rfl (Nat.zero_le _)
 rw [Nat.zero_add] at this
 exact this
end
abbrev blR:Int→Bool:=fun r=>decide (cls r=3)
abbrev dgR:Int→Bool:=fun r=>decide (cls r=2)
theorem bGH (s:List UInt8):Ev (fun K=>uD K s) ((sp blR s:Nat):Int) :=
 Ev.congr (f:=fun K=>_) (bDp (L:=kL) (f:=aAM) (fun k s w i=>by rw [kL]) aTF s) (fun K=>by rw [uD])
theorem aY3 (s:List UInt8):Ev (fun K=>oH K s) ((sp rR s:Nat):Int) :=
 Ev.congr (f:=fun K=>_) (bDp (L:=fQ) (f:=aAZ) (fun k s w i=>by rw [fQ]) aUp s) (fun K=>by rw [oH])
theorem bIa (s:List UInt8):Ev (fun K=>tQ K s) ((sp dgR s:Nat):Int) :=
 Ev.congr (f:=fun K=>_) (bDp (L:=iQ) (f:=sB) (fun k s w i=>by rw [iQ]) aSy s) (fun K=>by rw [tQ])
/-! ### comments -/
def cmF:Nat→Nat→List UInt8→Nat→Nat
 | 0,_,_,_=>0
 | n+1,d,s,i=>if s=[] then 0 else if List.isPrefixOf [40,42] s=true then cmF n (d+1) (s.drop 2) (i+2) else if List.isPrefixOf [42,41] s=true then (if d=1 then i+2 else cmF n (d - 1) (s.drop 2) (i+2)) else cmF n d (s.drop 1) (i+1)
def cmt (s:List UInt8):Nat:=cmF (s.length+1) 0 s 0
theorem aHH {a b:UInt8} {s:List UInt8} (h:List.isPrefixOf [a,b] s=true):∃ t,s=a :: b :: t:=by
 obtain ⟨t,ht⟩:=List.isPrefixOf_iff_prefix.1 h
 exact ⟨t,by rw [← ht]; rfl⟩
theorem aZf:∀ (n d:Nat) (s:List UInt8) (i:Nat),cmF n d s i≠0→i+2≤cmF n d s i∧cmF n d s i≤i+s.length:=by
 intro n
 induction n with
 | zero=>intro d s i h; exact absurd rfl h
 | succ n ih =>
  intro d s i
  unfold cmF
  by_cases e:s=[]
  ·rw [if_pos e]; exact fun h=>absurd rfl h
  rw [if_neg e]
  have h1:1≤s.length:=by cases s with | nil=>exact absurd rfl e | cons=>simp
  by_cases h2:List.isPrefixOf [40,42] s=true
  ·rw [if_pos h2]
   intro h
   have:=ih _ _ _ h
   obtain ⟨t,rfl⟩:=aHH h2
   simp only [List.length_drop,List.length_cons] at this ⊢
   omega
  rw [if_neg h2]
  by_cases h3:List.isPrefixOf [42,41] s=true
  ·rw [if_pos h3]
   obtain ⟨t,rfl⟩:=aHH h3
   by_cases hd:d=1
   ·rw [if_pos hd]; intro _; simp only [List.length_cons]; omega
   ·rw [if_neg hd]
    intro h
    have:=ih _ _ _ h
    simp only [List.length_drop,List.length_cons] at this ⊢
    omega
  ·rw [if_neg h3]
   intro h
   have:=ih _ _ _ h
   rw [List.length_drop] at this
   omega
theorem aZS (s:List UInt8) (hs:s.length≤2000000):∀ (n d i:Nat),s.length - i+1≤n→i≤s.length→d≤i→(d=0→List.isPrefixOf [40,42] (s.drop i)=true)→Ev (fun K=>iV K s (d:Int) (i:Int)) ((cmF n d (s.drop i) i:Nat):Int):=by
 intro n
 induction n with
 | zero=>intro d i h; omega
 | succ n ih =>
  intro d i hn hi hdi h0
  refine Ev.step (fun k=>by rw [iV]) ?_
  unfold cmF
  by_cases e:s.drop i=[]
  ·rw [if_pos e]
   have:s.length≤i:=List.drop_eq_nil_iff.1 e
   exact Ev.dF (by omega) Ev.pure
  rw [if_neg e]
  have hlt:i<s.length:=by
   have:=mt List.drop_eq_nil_iff.2 e
   omega
  have hsub:=aGc (l:=s) (a:=i) hi
  refine Ev.dT (by omega) ?_
  refine Ev.opt hsub ?_
  refine Ev.bind (aHB _ _) ?_
  by_cases h2:List.isPrefixOf [40,42] (s.drop i)=true
  ·rw [if_pos h2,h2]
   refine Ev.isT rfl ?_
   obtain ⟨t,ht⟩:=aHH h2
   have hl:=congrArg List.length ht
   rw [List.length_drop,List.length_cons,List.length_cons] at hl
   rw [bZ (by omega),eU (by omega) (by omega),show (i:Int)+2=((i+2:Nat):Int) by omega,List.drop_drop]
   exact ih (d+1) (i+2) (by omega) (by omega) (by omega) (fun h=>by omega)
  rw [if_neg h2,(Bool.not_eq_true _).mp h2]
  refine Ev.isF rfl ?_
  refine Ev.opt hsub ?_
  refine Ev.bind (aHB _ _) ?_
  have hd1:d≠0:=fun h=>h2 (h0 h)
  by_cases h3:List.isPrefixOf [42,41] (s.drop i)=true
  ·rw [if_pos h3,h3]
   refine Ev.isT rfl ?_
   obtain ⟨t,ht⟩:=aHH h3
   have hl:=congrArg List.length ht
   rw [List.length_drop,List.length_cons,List.length_cons] at hl
   rw [eU (x:=(d:Int) - 1) (by omega) (by omega),eU (x:=(i:Int)+2) (by omega) (by omega),show (i:Int)+2=((i+2:Nat):Int) by omega]
   by_cases hd:d=1
   ·rw [if_pos hd]
    exact Ev.dT (by omega) Ev.pure
   ·rw [if_neg hd,show (d:Int) - 1=((d - 1:Nat):Int) by omega,List.drop_drop]
    exact Ev.dF (by omega) (ih (d - 1) (i+2) (by omega) (by omega) (by omega) (fun h=>by omega))
  ·rw [if_neg h3,(Bool.not_eq_true _).mp h3]
   refine Ev.isF rfl ?_
   rw [bZ (by omega),List.drop_drop]
   exact ih d (i+1) (by omega) (by omega) (by omega) (fun h=>by omega)
theorem bH8 {s:List UInt8} (hs:s.length≤2000000) (h:List.isPrefixOf [40,42] s=true):Ev (fun K=>zB K s) ((cmt s:Nat):Int) :=
 Ev.congr (f:=fun K=>_) (aZS s hs (s.length+1) 0 0 (by omega) (by omega) (by omega) (fun _=>h)) (fun K=>by rw [zB]; rfl)
/-! ### may it be read? -/
theorem Rk.step {s:List UInt8} (h:Rk s) (hs:s≠[]):okr (dc s).1∧Rk (s.drop (dc s).2):=by
 cases h with
 | nil=>exact absurd rfl hs
 | cons _ a b=>exact ⟨a,b⟩
theorem aVk (s:List UInt8):∀ t,∀ i:Nat,s.drop i=t→i≤s.length→(Rk t∧Ev (fun K=>cN K s (i:Int)) (0,0))∨(¬ Rk t∧∃ j:Nat,j≤s.length∧Ev (fun K=>cN K s (i:Int)) ((j:Int),4)):=by
 refine aHT ?_ ?_
 ·intro i hd hi
  have:s.length≤i:=List.drop_eq_nil_iff.1 hd
  refine .inl ⟨.nil,Ev.step (fun k=>by rw [cN]) ?_⟩
  exact Ev.dF (by simp only [Int.toNat_natCast]; omega) Ev.pure
 ·intro t ht ih i hd hi
  have hl:=congrArg List.length hd
  rw [List.length_drop] at hl
  have h1:1≤t.length:=by cases t with | nil=>exact absurd rfl ht | cons=>simp
  have hle:=aPz ht
  have bad:¬ okr (dc t).1→Ev (fun K=>cN K s (i:Int)) ((i:Int),4):=fun hb=>by
   refine Ev.step (fun k=>by rw [cN]) ?_
   simp only [Int.toNat_natCast,lU]
   rw [hd]
   refine Ev.dT (by omega) ?_
   refine Ev.d (fun _=>Ev.pure) (fun c1=>?_)
   refine Ev.d (fun c2=>Ev.bind (qI _) ?_) (fun c2=>?_)
   ·refine Ev.n (fun _=>Ev.pure) (fun c3=>?_)
    refine Ev.dT ?_ Ev.pure
    refine Classical.byContradiction fun c4=>hb ⟨by omega,fun _=>c3,by omega⟩
   ·refine Ev.dT ?_ Ev.pure
    refine Classical.byContradiction fun c4=>hb ⟨by omega,fun h=>absurd h c2,by omega⟩
  by_cases hok:okr (dc t).1
  ·have good:∀ {v:Int×Int},Ev (fun K=>cN K s ((i+(dc t).2:Nat):Int)) v→Ev (fun K=>cN K s (i:Int)) v:=fun {v} nxt=>by
    obtain ⟨o1,o2,o3⟩:=hok
    refine Ev.step (fun k=>by rw [cN]) ?_
    simp only [Int.toNat_natCast,lU]
    rw [hd]
    refine Ev.dT (by omega) ?_
    refine Ev.dF (by omega) ?_
    refine Ev.d (fun h32=>Ev.bind (qI _) ?_) (fun h32=>?_)
    ·exact Ev.nF (o2 h32) (Ev.dF (by omega) nxt)
    ·exact Ev.dF (by omega) nxt
   rcases ih (i+(dc t).2) (by rw [← List.drop_drop,hd]) (by omega) with ⟨a,b⟩ | ⟨a,j,b,c⟩
   ·exact .inl ⟨.cons ht hok a,good b⟩
   ·exact .inr ⟨fun h=>a (h.step ht).2,j,b,good c⟩
  ·exact .inr ⟨fun h=>hok (h.step ht).1,i,hi,bad hok⟩
theorem aWd {s:List UInt8} (hs:s.length≤16384):(Rk s∧Ev (fun K=>qV K s) (0,0))∨(¬ Rk s∧∃ j:Nat,j≤s.length∧Ev (fun K=>qV K s) ((j:Int),4)):=by
 have q:∀ {v:Int×Int},Ev (fun K=>cN K s 0) v→Ev (fun K=>qV K s) v:=fun h=>by
  refine Ev.congr (f:=fun K=>_) ?_ (fun K=>by rw [qV])
  exact Ev.dF (by omega) h
 rcases aVk s s 0 rfl (Nat.zero_le _) with ⟨a,b⟩ | ⟨a,j,b,c⟩
 ·exact .inl ⟨a,q b⟩
 ·exact .inr ⟨a,j,b,q c⟩
end Go.Proofs.YtjhfgiieicloeaaGreatDoor

/- The lexer, piece by piece: words, names, numbers, signs. -/
namespace Go.Proofs.YtjhfgiieicloeaaGreatDoor
open Go Go.Am Go.Sx
theorem bGE {s:List UInt8} (h:s≠[]) (hr:(dc s).1<128):∃ b t,s=b :: t∧b.toNat=(dc s).1∧(dc s).2=1:=by
 cases s with
 | nil=>exact absurd rfl h
 | cons b t =>
  refine ⟨b,t,rfl,?_⟩
  have e0:(b :: t)[0]! = b:=rfl
  unfold dc Lib.decodeN at hr ⊢
  rw [e0] at hr ⊢
  by_cases c0:b.toNat<128
  ·rw [if_pos c0]; exact ⟨rfl,rfl⟩
  ·exfalso
   rw [if_neg c0] at hr
   revert hr
   repeat' split
   all_goals simp only; omega
theorem bA6 {r:Int} (h:cls r=2):48≤r∧r≤57:=by
 unfold cls at h
 repeat' split at h
 all_goals first | omega | (exact absurd h (by decide))
theorem bGs:∀ s:List UInt8,Dg (s.take (sp dgR s)):=by
 refine aHT ?_ fun s h ih=>?_
 ·intro b hb; cases hb
 ·rw [aGw h]
  by_cases hc:dgR (((dc s).1:Nat):Int)=true
  ·rw [if_pos hc]
   have hc2:=bA6 (of_decide_eq_true hc)
   obtain ⟨b,t,rfl,e1,e2⟩:=bGE h (by omega)
   rw [e2] at ih ⊢
   rw [Nat.add_comm,List.take_succ_cons]
   intro c hc
   rcases List.mem_cons.1 hc with rfl | hc
   ·omega
   ·exact ih c hc
  ·rw [if_neg hc]
   intro b hb; cases hb
theorem aT2 {l:List UInt8} {k:Nat} (h:k≤l.length):jD l 0 ((k:Nat):Int)=some (l.take k):=by
 have:=tO (l:=l) (a:=0) (b:=k) (by omega) h
 simpa using this
theorem aKG {l:List UInt8} {n:Nat} (h:n<l.length):(l.drop n).head?=some l[n]:=by rw [iL h]; rfl
def lgF:Nat→Bool→List UInt8→Nat×Bool
 | 0,_,_=>(0,false)
 | n+1,ok,t=>if ok=true∧t.head?=some 46 then (1+sp rR (t.drop 1)+(lgF n (jG ((t.drop 1).take (sp rR (t.drop 1)))) (t.drop (1+sp rR (t.drop 1)))).1,(lgF n (jG ((t.drop 1).take (sp rR (t.drop 1)))) (t.drop (1+sp rR (t.drop 1)))).2) else (0,ok)
theorem bEg:∀ (n:Nat) (ok:Bool) (t:List UInt8),(lgF n ok t).1≤t.length:=by
 intro n
 induction n with
 | zero=>intro ok t; exact Nat.zero_le _
 | succ n ih =>
  intro ok t
  unfold lgF
  by_cases h:ok=true∧t.head?=some 46
  ·rw [if_pos h]
   have:=ih (jG ((t.drop 1).take (sp rR (t.drop 1)))) (t.drop (1+sp rR (t.drop 1)))
   have h1:1≤t.length:=by cases t with | nil=>exact absurd h.2 (by simp) | cons=>simp
   have h2:=aM5 (p:=rR) (t.drop 1)
   rw [List.length_drop] at this h2
   simp only
   omega
  ·rw [if_neg h]; exact Nat.zero_le _
theorem aWM {β:Type} {p:List UInt8} {F:Nat→Bool→Option β} {v:β} (h:Ev (fun K=>F K (jG p)) v):Ev (fun K=>(tJ K p).bind fun x=>iteS x ((rC K p).bind fun y=>F K (!y)) (F K false)) v:=by
 refine Ev.bind (aO0 p) ?_
 cases hn:nmS p with
 | true =>
  refine Ev.isT rfl (Ev.bind (aEX p) ?_)
  unfold jG at h
  rw [hn,Bool.true_and] at h
  exact h
 | false =>
  refine Ev.isF rfl ?_
  unfold jG at h
  rw [hn,Bool.false_and] at h
  exact h
theorem aWN (s:List UInt8) (hs:s.length≤2000000):∀ (m n:Nat) (ok:Bool),s.length - n+1≤m→n≤s.length→Ev (fun K=>dW K s (n:Int) ok) (1,s.take (n+(lgF m ok (s.drop n)).1),0,0,((n+(lgF m ok (s.drop n)).1:Nat):Int),(lgF m ok (s.drop n)).2 && decide (n+(lgF m ok (s.drop n)).1≤128)):=by
 intro m
 induction m with
 | zero=>intro n ok h; omega
 | succ m ih =>
  intro n ok hm hn
  have hsub:=aT2 hn
  refine Ev.step (fun k=>by rw [dW]) ?_
  unfold lgF
  cases ok with
  | false =>
   rw [if_neg (fun h=>absurd h.1 (by decide))]
   refine Ev.isF rfl ?_
   exact Ev.opt hsub (Ev.pure' (by simp))
  | true =>
   refine Ev.isT rfl ?_
   refine Ev.d (fun h=>?_) (fun h=>?_)
   ·have hlt:n<s.length:=by omega
    refine Ev.opt (dL hlt) ?_
    rw [aKG hlt]
    refine Ev.d (fun h46=>?_) (fun h46=>?_)
    ·have h46:s[n]=46:=by
      have:s[n].toNat=46:=by omega
      exact UInt8.toNat_inj.1 this
     rw [if_pos ⟨rfl,by rw [h46]⟩,List.drop_drop,bZ (by omega)]
     have hsd:=aGc (l:=s) (a:=n+1) (by omega)
     refine Ev.opt hsd ?_
     refine Ev.bind (aY3 _) ?_
     refine Ev.opt hsd ?_
     have hle:=aM5 (p:=rR) (s.drop (n+1))
     refine Ev.opt (aT2 hle) ?_
     generalize hk:sp rR (s.drop (n+1))=k at *
     rw [List.length_drop] at hle
     refine aWM (F:=fun K b=>dW K s (IntKind.i64.wrap (((n:Nat):Int)+IntKind.i64.wrap (1+((k:Nat):Int)))) b) ?_
     rw [eU (x:=1+((k:Nat):Int)) (by omega) (by omega),eU (by omega) (by omega),show (n:Int)+(1+((k:Nat):Int))=((n+1+k:Nat):Int) by omega]
     have nxt:=ih (n+1+k) (jG ((s.drop (n+1)).take k)) (by omega) (by omega)
     rw [List.drop_drop,show n+(1+k)=n+1+k by omega]
     simp only
     rw [show n+(1+k+(lgF m (jG (List.take k (List.drop (n+1) s))) (List.drop (n+1+k) s)).fst)=n+1+k+(lgF m (jG (List.take k (List.drop (n+1) s))) (List.drop (n+1+k) s)).fst by omega]
     exact nxt
    ·have h46:¬ some s[n]=some (46:UInt8):=by
      intro e
      have e:=Option.some.inj e
      rw [e] at h46
      exact h46 rfl
     rw [if_neg (fun h=>h46 h.2)]
     refine Ev.opt hsub (Ev.pure' ?_)
     simp only [Nat.add_zero,Bool.true_and,Prod.mk.injEq,true_and]
     exact decide_eq_decide.2 (by omega)
   ·have hn2:s.drop n=[]:=List.drop_of_length_le (by omega)
    rw [hn2,if_neg (fun h=>by simp at h)]
    refine Ev.opt hsub (Ev.pure' ?_)
    simp only [Nat.add_zero,Bool.true_and,Prod.mk.injEq,true_and]
    exact decide_eq_decide.2 (by omega)
def lnS (s:List UInt8):aZl :=
 if s.take (sp rR s)∈aOe∧(s.drop (sp rR s)).head?≠some 46 then (3,s.take (sp rR s),0,0,((sp rR s:Nat):Int),true)
 else (1,s.take (sp rR s+(lgF (s.length+1) (jG (s.take (sp rR s))) (s.drop (sp rR s))).1),0,0,((sp rR s+(lgF (s.length+1) (jG (s.take (sp rR s))) (s.drop (sp rR s))).1:Nat):Int),
  (lgF (s.length+1) (jG (s.take (sp rR s))) (s.drop (sp rR s))).2 && decide (sp rR s+(lgF (s.length+1) (jG (s.take (sp rR s))) (s.drop (sp rR s))).1≤128))
theorem bEW {s:List UInt8} (hs:s.length≤2000000):Ev (fun K=>aAk K s) (lnS s):=by
 refine Ev.congr (f:=fun K=>_) ?_ (fun K=>by rw [aAk])
 have hle:=aM5 (p:=rR) s
 refine Ev.bind (aY3 s) ?_
 have hsub:=aT2 hle
 have nxt:=aWN s hs (s.length+1) (sp rR s) (jG (s.take (sp rR s))) (by omega) hle
 unfold lnS
 generalize hn:sp rR s=n at *
 refine Ev.opt hsub ?_
 refine Ev.bind (aEX _) ?_
 by_cases hw:s.take n∈aOe
 ·rw [decide_eq_true hw]
  refine Ev.isT rfl ?_
  refine Ev.d (fun h=>?_) (fun h=>?_)
  ·have hn2:s.drop n=[]:=List.drop_of_length_le (by omega)
   rw [if_pos ⟨hw,by rw [hn2]; simp⟩]
   exact Ev.opt hsub Ev.pure
  ·have hlt:n<s.length:=by omega
   refine Ev.opt (dL hlt) ?_
   refine Ev.n (fun h46=>?_) (fun h46=>?_)
   ·have h46:¬ some s[n]=some (46:UInt8):=by
     intro e
     have e:=Option.some.inj e
     rw [e] at h46
     exact h46 rfl
    rw [if_pos ⟨hw,by rw [aKG hlt]; exact h46⟩]
    exact Ev.opt hsub Ev.pure
   ·have h46:s[n]=46:=by
     have:s[n].toNat=46:=by omega
     exact UInt8.toNat_inj.1 this
    rw [if_neg (fun h=>h.2 (by rw [aKG hlt,h46]))]
    refine Ev.opt hsub ?_
    have q:=aWM (p:=s.take n) (F:=fun K b=>dW K s ((n:Nat):Int) b) nxt
    refine Ev.congr (f:=fun K=>_) q fun K=>?_
    simp only [hsub,Option.bind_some]
 ·rw [decide_eq_false hw,if_neg (fun h=>hw h.1)]
  refine Ev.isF rfl ?_
  refine Ev.opt hsub ?_
  have q:=aWM (p:=s.take n) (F:=fun K b=>dW K s ((n:Nat):Int) b) nxt
  refine Ev.congr (f:=fun K=>_) q fun K=>?_
  simp only [hsub,Option.bind_some]
/-! ### numbers -/
def bG6:aZl:=(0,[],0,0,0,false)
def aYh (f:Nat) (v:Int):Int:=if (f:Int)=1 then -v else v
theorem aW5 (s:List UInt8) (neg:Nat) (len:Int) (hl:s.length≤2000000):∀ (m i:Nat) (v:Int),s.length=i+m→0≤v→v≤1073741824→Dg (s.drop i)→Ev (fun K=>fS K (neg:Int) len v s (i:Int)) (if 1073741824<fv v (s.drop i) then bG6 else (2,xH (aYh neg (fv v (s.drop i))),aYh neg (fv v (s.drop i)),0,len,true)):=by
 intro m
 induction m with
 | zero =>
  intro i v hi hv hv2 _
  have e:s.drop i=[]:=List.drop_of_length_le (by omega)
  rw [e]
  show Ev _ (if 1073741824<v then bG6 else (2,xH (aYh neg v),aYh neg v,0,len,true))
  rw [if_neg (by omega)]
  refine Ev.step (fun k=>by rw [fS]) ?_
  refine Ev.dF (by simp; omega) ?_
  unfold aYh
  refine Ev.d (fun h=>?_) (fun h=>?_)
  ·rw [if_pos h,eU (by omega) (by omega),show 0 - v=-v by omega]
   exact Ev.bind (aFR _ (by omega)) Ev.pure
  ·rw [if_neg h]
   exact Ev.bind (aFR _ (by omega)) Ev.pure
 | succ m ih =>
  intro i v hi hv hv2 hd
  have hlt:i<s.length:=by omega
  have hd0:=iL hlt
  rw [hd0] at hd
  have hb:=hd _ List.mem_cons_self
  have hd':Dg (s.drop (i+1)):=fun c hc=>hd c (List.mem_cons_of_mem _ hc)
  have hg:=bAQ (s.drop (i+1)) (10 * v+((s[i].toNat:Int) - 48)) (by omega) hd'
  have ef:fv v (s.drop i)=fv (10 * v+((s[i].toNat:Int) - 48)) (s.drop (i+1)):=by rw [hd0]; rfl
  refine Ev.step (fun k=>by rw [fS]) ?_
  simp only [Int.toNat_natCast,lU]
  rw [ef,hd0,pX (by omega)]
  refine Ev.dT (by omega) ?_
  rw [wrap32 (x:=((s[i].toNat:Nat):Int) - 48) (by omega) (by omega),eU (x:=10 * v) (by omega) (by omega),eU (x:=((s[i].toNat:Nat):Int) - 48) (by omega) (by omega),eU (x:=10 * v+(((s[i].toNat:Nat):Int) - 48)) (by omega) (by omega)]
  refine Ev.d (fun h=>?_) (fun h=>?_)
  ·rw [if_pos (by omega)]; exact Ev.pure
  ·exact ih (i+1) _ (by omega) (by omega) (by omega) hd'
def nuS (s:List UInt8) (f:Nat):aZl :=
 if sp dgR (s.drop f)=0∨0<sp rR (s.drop (f+sp dgR (s.drop f)))∨1073741824<fv 0 ((s.drop f).take (sp dgR (s.drop f))) then bG6
 else (2,xH (aYh f (fv 0 ((s.drop f).take (sp dgR (s.drop f))))),aYh f (fv 0 ((s.drop f).take (sp dgR (s.drop f)))),0,((f+sp dgR (s.drop f):Nat):Int),true)
theorem aVG {s:List UInt8} {f:Nat} (hs:s.length≤2000000) (hf:f≤s.length):Ev (fun K=>iR K s (f:Int)) (nuS s f):=by
 refine Ev.step (fun k=>by rw [iR]) ?_
 refine Ev.opt (aGc hf) ?_
 refine Ev.bind (bIa _) ?_
 have hle:=aM5 (p:=dgR) (s.drop f)
 have hdg:=bGs (s.drop f)
 unfold nuS
 generalize sp dgR (s.drop f)=k at *
 rw [List.length_drop] at hle
 rw [eU (by omega) (by omega),show (f:Int)+(k:Int)=((f+k:Nat):Int) by omega]
 refine Ev.d (fun h=>?_) (fun h=>?_)
 ·rw [if_pos (.inl (by omega))]; exact Ev.pure
 refine Ev.opt (aGc (by omega)) ?_
 refine Ev.bind (aY3 _) ?_
 generalize sp rR (s.drop (f+k))=q
 refine Ev.d (fun h2=>?_) (fun h2=>?_)
 ·rw [if_pos (.inr (.inl (by omega)))]; exact Ev.pure
 have sb:=tO (l:=s) (a:=f) (b:=f+k) (by omega) (by omega)
 rw [show (s.take (f+k)).drop f=(s.drop f).take k by rw [List.drop_take]; congr 1; omega] at sb
 refine Ev.opt sb ?_
 generalize hD:(s.drop f).take k=D at *
 have hDl:D.length≤2000000:=by rw [← hD,List.length_take]; omega
 have:=aW5 D f ((f+k:Nat):Int) hDl D.length 0 0 (by omega) (by omega) (by omega) (by rw [List.drop_zero]; exact hdg)
 rw [List.drop_zero] at this
 refine Ev.cast this ?_
 by_cases hv:1073741824<fv 0 D
 ·rw [if_pos hv,if_pos (.inr (.inr hv))]
 ·rw [if_neg hv,if_neg (fun h3=>by omega)]
def aEz (s:List UInt8):aZl:=if cls (((dc s).1:Nat):Int)=1 then lnS s else if cls (((dc s).1:Nat):Int)=2 then nuS s 0 else if s.head?=some 126 then nuS s 1 else fnd aL0 s
theorem bHA {s:List UInt8} (hs:s.length≤2000000) (h0:s≠[]):Ev (fun K=>mM K s) (aEz s):=by
 obtain ⟨b,t,rfl⟩:∃ b t,s=b :: t:=by cases s with | nil=>exact absurd rfl h0 | cons b t=>exact ⟨b,t,rfl⟩
 have hg:aT (b :: t) 0=some b:=rfl
 have hnum:∀ f,f≤(b :: t).length→(b.toNat=126↔f=1)→(f=0∨f=1)→Ev (fun K=>oI K (b :: t)) (nuS (b :: t) f):=fun f hf hb h01=>by
  refine Ev.congr (f:=fun K=>_) ?_ (fun K=>by rw [oI])
  refine Ev.opt hg ?_
  refine Ev.d (fun h=>?_) (fun h=>?_)
  ·obtain rfl:=hb.1 (by omega)
   exact aVG hs hf
  ·obtain rfl:f=0:=by
    rcases h01 with h | h'
    ·exact h
    ·exact absurd (hb.2 h') (by omega)
   exact aVG hs hf
 refine Ev.congr (f:=fun K=>_) ?_ (fun K=>by rw [mM])
 refine Ev.bind (aJ9 h0) ?_
 refine Ev.bind (qI _) ?_
 unfold aEz
 refine Ev.d (fun h=>?_) (fun h=>?_)
 ·rw [if_pos h]
  exact Ev.bind (bEW hs) Ev.pure
 rw [if_neg h]
 refine Ev.d (fun h2=>?_) (fun h2=>?_)
 ·rw [if_pos h2]
  refine Ev.bind (hnum 0 (Nat.zero_le _) ⟨fun e=>?_,fun e=>absurd e (by decide)⟩ (.inl rfl)) Ev.pure
  exfalso
  rw [pX (by omega)] at h2
  have:=bA6 h2
  simp only at this
  omega
 rw [if_neg h2]
 refine Ev.opt hg ?_
 refine Ev.d (fun h3=>?_) (fun h3=>?_)
 ·have e:b=126:=UInt8.toNat_inj.1 (by show b.toNat=126; omega)
  rw [if_pos (by rw [e]; rfl)]
  exact Ev.bind (hnum 1 (by simp) ⟨fun _=>rfl,fun _=>by omega⟩ (.inr rfl)) Ev.pure
 ·rw [if_neg (fun e=>h3 (by rw [show b=126 from Option.some.inj e]; rfl))]
  refine Ev.opt (aXA 0) ?_
  have:=aMI (b :: t) aL0 (by decide) aL0.length 0 (by omega)
  rw [List.drop_zero] at this
  exact this
end Go.Proofs.YtjhfgiieicloeaaGreatDoor

/- The lexer: a text's tokens. -/
namespace Go.Proofs.YtjhfgiieicloeaaGreatDoor
open Go Go.Am Go.Sx
def TkG (x:Wd) (v:Int):Prop:=(x.1=3∧(x.2∈aOe∨x.2∈aL0)∧v=0)∨(x.1=1∧(∃ p r,x.2=p++lj r∧jG p=true∧(∀ q∈r,jG q=true)∧x.2.length≤128)∧v=0)∨(x.1=2∧x.2=xH v∧-1073741824≤v∧v≤1073741824)
theorem bHP:∀ (n:Nat) (ok:Bool) (t:List UInt8),(lgF n ok t).2=true→ok=true∧∃ r,t.take (lgF n ok t).1=lj r∧∀ q∈r,jG q=true:=by
 intro n
 induction n with
 | zero=>intro ok t h; exact absurd (show false=true from h) (by decide)
 | succ n ih =>
  intro ok t
  unfold lgF
  by_cases h:ok=true∧t.head?=some 46
  ·rw [if_pos h]
   obtain ⟨b,u,rfl⟩:∃ b u,t=b :: u:=by cases t with | nil=>exact absurd h.2 (by simp) | cons b u=>exact ⟨b,u,rfl⟩
   obtain rfl:b=46:=Option.some.inj h.2
   show _→_
   intro h2
   obtain ⟨c,r,e,hr⟩:=ih _ _ h2
   refine ⟨h.1,u.take (sp rR u) :: r,?_,fun q hq=>?_⟩
   ·show (46 :: u).take _=46 :: (u.take (sp rR u)++lj r)
    rw [← e]
    simp only [List.drop_succ_cons,List.drop_zero]
    generalize (lgF n (jG (List.take (sp rR u) u)) (List.drop (1+sp rR u) (46 :: u))).1=m
    rw [show 1+sp rR u+m=(sp rR u+m)+1 by omega,List.take_succ_cons,List.take_add,show 1+sp rR u=sp rR u+1 by omega,List.drop_succ_cons]
   ·rcases List.mem_cons.1 hq with rfl | hq
    ·exact c
    ·exact hr q hq
  ·rw [if_neg h]
   show ok=true→_
   intro h2
   refine ⟨h2,[],rfl,fun q hq=>by cases hq⟩
theorem bFf {r:Int} (h:cls r=1):rR r=true:=by unfold rR; rw [h]; rfl
theorem bDS {l:List (List UInt8)} {s:List UInt8} (h:(fnd l s).2.2.2.2.2=true):∃ x,x∈l∧x.isPrefixOf s=true∧fnd l s=(3,x,0,0,((x.length:Nat):Int),true):=by
 unfold fnd at h ⊢
 cases hf:l.find? (fun x=>x.isPrefixOf s) with
 | none=>rw [hf] at h; exact absurd h (by decide)
 | some x=>exact ⟨x,List.mem_of_find?_eq_some hf,List.find?_some (p:=fun x:List UInt8=>x.isPrefixOf s) hf,rfl⟩
theorem bFq:∀ x∈aL0,1≤x.length:=by decide
theorem aPL {s:List UInt8} (h0:s≠[]) (h:(aEz s).2.2.2.2.2=true):∃ (k:Int) (x:List UInt8) (v:Int) (n:Nat),aEz s=(k,x,v,0,(n:Int),true)∧1≤n∧n≤s.length∧TkG (k,x) v:=by
 have hnum:∀ f,f≤s.length→(nuS s f).2.2.2.2.2=true→∃ (k:Int) (x:List UInt8) (v:Int) (n:Nat),nuS s f=(k,x,v,0,(n:Int),true)∧1≤n∧n≤s.length∧TkG (k,x) v:=fun f hf h=>by
  have hdg:=bGs (s.drop f)
  have hle:=aM5 (p:=dgR) (s.drop f)
  rw [List.length_drop] at hle
  unfold nuS at h ⊢
  generalize sp dgR (s.drop f)=k at *
  by_cases hc:k=0∨0<sp rR (s.drop (f+k))∨1073741824<fv 0 ((s.drop f).take k)
  ·rw [if_pos hc] at h; exact absurd h (by decide)
  ·rw [if_neg hc]
   have hg:=bAQ _ 0 (by omega) hdg
   refine ⟨_,_,_,_,rfl,by omega,by omega,.inr (.inr ⟨rfl,rfl,?_⟩)⟩
   unfold aYh
   split <;> omega
 unfold aEz at h ⊢
 by_cases c1:cls (((dc s).1:Nat):Int)=1
 ·rw [if_pos c1] at h ⊢
  have hp:=(bDx (p:=rR) h0).1 (bFf c1)
  have hle:=aM5 (p:=rR) s
  unfold lnS at h ⊢
  by_cases hw:s.take (sp rR s)∈aOe∧(s.drop (sp rR s)).head?≠some 46
  ·rw [if_pos hw] at h ⊢
   exact ⟨_,_,_,_,rfl,hp,hle,.inl ⟨rfl,.inl hw.1,rfl⟩⟩
  ·rw [if_neg hw] at h ⊢
   have hl:=bEg (s.length+1) (jG (s.take (sp rR s))) (s.drop (sp rR s))
   have ho:=bHP (s.length+1) (jG (s.take (sp rR s))) (s.drop (sp rR s))
   generalize lgF (s.length+1) (jG (s.take (sp rR s))) (s.drop (sp rR s))=g at *
   rw [List.length_drop] at hl
   simp only [Bool.and_eq_true,decide_eq_true_eq] at h
   obtain ⟨hc,r,hr,hq⟩:=ho h.1
   refine ⟨1,s.take (sp rR s+g.1),0,sp rR s+g.1,?_,by omega,by omega,.inr (.inl ⟨rfl,⟨s.take (sp rR s),r,?_,hc,hq,?_⟩,rfl⟩)⟩
   ·rw [h.1,decide_eq_true h.2]; rfl
   ·show s.take (sp rR s+g.1)=_
    rw [List.take_add,hr]
   ·show (s.take (sp rR s+g.1)).length≤128
    rw [List.length_take]; omega
 rw [if_neg c1] at h ⊢
 by_cases c2:cls (((dc s).1:Nat):Int)=2
 ·rw [if_pos c2] at h ⊢
  exact hnum 0 (Nat.zero_le _) h
 rw [if_neg c2] at h ⊢
 by_cases c3:s.head?=some 126
 ·rw [if_pos c3] at h ⊢
  exact hnum 1 (by cases s with | nil=>exact absurd rfl h0 | cons=>simp) h
 rw [if_neg c3] at h ⊢
 obtain ⟨x,h1,h2,h3⟩:=bDS h
 rw [h3]
 have:=(List.isPrefixOf_iff_prefix.1 h2).length_le
 exact ⟨_,_,_,_,rfl,bFq x h1,this,.inl ⟨rfl,.inr h1,rfl⟩⟩
def lxF:Nat→List UInt8→Nat→List aF→List aF×Int×Int
 | 0,_,i,_=>([],(i:Int),5)
 | n+1,s,i,acc =>
  if s=[] then (acc,0,0)
  else if cls (((dc s).1:Nat):Int)=3 then lxF n (s.drop (dc s).2) (i+(dc s).2) acc
  else if List.isPrefixOf [40,42] s=true then (if cmt s=0 then ([],(i:Int),5) else lxF n (s.drop (cmt s)) (i+cmt s) acc)
  else if (aEz s).2.2.2.2.2=true then lxF n (s.drop (aEz s).2.2.2.2.1.toNat) (i+(aEz s).2.2.2.2.1.toNat) (acc++[((aEz s).1,(aEz s).2.1,(aEz s).2.2.1,(i:Int))])
  else ([],(i:Int),5)
theorem aUe:∀ (n m:Nat) (s:List UInt8) (i:Nat) (acc:List aF),s.length<n→s.length<m→lxF n s i acc=lxF m s i acc:=by
 intro n
 induction n with
 | zero=>intro m s i acc h; omega
 | succ n ih =>
  intro m s i acc h h'
  cases m with
  | zero=>omega
  | succ m =>
   unfold lxF
   by_cases e:s=[]
   ·rw [if_pos e,if_pos e]
   rw [if_neg e,if_neg e]
   have h1:1≤s.length:=by cases s with | nil=>exact absurd rfl e | cons=>simp
   by_cases c1:cls (((dc s).1:Nat):Int)=3
   ·rw [if_pos c1,if_pos c1]
    have:=oG s
    exact ih _ _ _ _ (by rw [List.length_drop]; omega) (by rw [List.length_drop]; omega)
   rw [if_neg c1,if_neg c1]
   by_cases c2:List.isPrefixOf [40,42] s=true
   ·rw [if_pos c2,if_pos c2]
    by_cases c3:cmt s=0
    ·rw [if_pos c3,if_pos c3]
    ·rw [if_neg c3,if_neg c3]
     exact ih _ _ _ _ (by rw [List.length_drop]; omega) (by rw [List.length_drop]; omega)
   rw [if_neg c2,if_neg c2]
   by_cases c4:(aEz s).2.2.2.2.2=true
   ·rw [if_pos c4,if_pos c4]
    obtain ⟨k,x,v,q,e4,h4,_⟩:=aPL e c4
    rw [e4]
    simp only [Int.toNat_natCast]
    exact ih _ _ _ _ (by rw [List.length_drop]; omega) (by rw [List.length_drop]; omega)
   ·rw [if_neg c4,if_neg c4]
def lxS (s:List UInt8) (i:Nat) (acc:List aF):List aF×Int×Int:=lxF (s.length+1) s i acc
theorem aGt (i:Nat) (acc:List aF):lxS [] i acc=(acc,0,0):=by
 show lxF 1 [] i acc=_
 unfold lxF
 rw [if_pos rfl]
section
variable {s:List UInt8} (h0:s≠[])
include h0
theorem aNF (i:Nat) (acc:List aF) (c:cls (((dc s).1:Nat):Int)=3):lxS s i acc=lxS (s.drop (dc s).2) (i+(dc s).2) acc:=by
 have h1:1≤s.length:=by cases s with | nil=>exact absurd rfl h0 | cons=>simp
 have:=oG s
 unfold lxS
 rw [lxF,if_neg h0,if_pos c]
 exact aUe _ _ _ _ _ (by rw [List.length_drop]; omega) (by omega)
variable (c1:¬ cls (((dc s).1:Nat):Int)=3)
include c1
theorem aNL (i:Nat) (acc:List aF) (c2:List.isPrefixOf [40,42] s=true):lxS s i acc=if cmt s=0 then ([],(i:Int),5) else lxS (s.drop (cmt s)) (i+cmt s) acc:=by
 have h1:1≤s.length:=by cases s with | nil=>exact absurd rfl h0 | cons=>simp
 unfold lxS
 rw [lxF,if_neg h0,if_neg c1,if_pos c2]
 by_cases c3:cmt s=0
 ·rw [if_pos c3,if_pos c3]
 ·rw [if_neg c3,if_neg c3]
  exact aUe _ _ _ _ _ (by rw [List.length_drop]; omega) (by omega)
theorem aPP (i:Nat) (acc:List aF) (c2:List.isPrefixOf [40,42] s=false) {k v:Int} {x:List UInt8} {n:Nat} (e:aEz s=(k,x,v,0,(n:Int),true)):lxS s i acc=lxS (s.drop n) (i+n) (acc++[(k,x,v,(i:Int))]):=by
 have h1:1≤s.length:=by cases s with | nil=>exact absurd rfl h0 | cons=>simp
 have c4:(aEz s).2.2.2.2.2=true:=by rw [e]
 obtain ⟨k',x',v',q,e4,h4,_⟩:=aPL h0 c4
 rw [e] at e4
 have:n=q:=by
  have:=congrArg (fun r:aZl=>r.2.2.2.2.1) e4
  simp only at this
  omega
 unfold lxS
 rw [lxF,if_neg h0,if_neg c1,if_neg (by rw [c2]; decide),if_pos c4,e]
 simp only [Int.toNat_natCast]
 exact aUe _ _ _ _ _ (by rw [List.length_drop]; omega) (by omega)
theorem aWt (i:Nat) (acc:List aF) (c2:List.isPrefixOf [40,42] s=false) (e:(aEz s).2.2.2.2.2=false):lxS s i acc=([],(i:Int),5):=by
 unfold lxS
 rw [lxF,if_neg h0,if_neg c1,if_neg (by rw [c2]; decide),if_neg (by rw [e]; decide)]
end
theorem bCA (acc:List aF):∀ (s:List UInt8),∀ (i:Nat),lxS s i acc=lxS (s.drop (sp blR s)) (i+sp blR s) acc:=by
 refine aHT ?_ fun s h ih i=>?_
 ·intro i; rfl
 ·rw [aGw h]
  by_cases c:blR (((dc s).1:Nat):Int)=true
  ·rw [if_pos c,aNF h i acc (of_decide_eq_true c),ih,List.drop_drop,Nat.add_assoc]
  ·rw [if_neg c]; rfl
theorem bFw {p:Int→Bool} {s:List UInt8} (h0:s≠[]) (h:sp p s=0):¬ p (((dc s).1:Nat):Int)=true:=fun c=>by
 have:=(bDx (p:=p) h0).1 c
 omega
theorem bJx (s:List UInt8) (hs:s.length≤2000000):∀ (m i:Nat) (acc:List aF),s.length - i≤m→i≤s.length→acc.length≤i→Ev (fun K=>eN K s acc (i:Int)) (lxS (s.drop i) i acc):=by
 intro m
 induction m with
 | zero =>
  intro i acc hm hi ha
  have e:s.drop i=[]:=List.drop_of_length_le (by omega)
  rw [e,aGt]
  exact Ev.step (fun k=>by rw [eN]) (Ev.dF (by omega) Ev.pure)
 | succ m ih =>
  intro i acc hm hi ha
  by_cases e:s.drop i=[]
  ·rw [e,aGt]
   have:s.length≤i:=List.drop_eq_nil_iff.1 e
   exact Ev.step (fun k=>by rw [eN]) (Ev.dF (by omega) Ev.pure)
  have hlt:i<s.length:=by
   have:=mt List.drop_eq_nil_iff.2 e
   omega
  have hlen:(s.drop i).length=s.length - i:=List.length_drop
  refine Ev.step (fun k=>by rw [eN]) ?_
  refine Ev.dT (by omega) ?_
  refine Ev.opt (aGc hi) ?_
  refine Ev.bind (bGH _) ?_
  refine Ev.d (fun hb=>?_) (fun hb=>?_)
  ·have hle:=aM5 (p:=blR) (s.drop i)
   have nxt:=ih (i+sp blR (s.drop i)) acc (by omega) (by omega) (by omega)
   rw [bCA,List.drop_drop]
   rw [eU (by omega) (by omega),show (i:Int)+((sp blR (s.drop i):Nat):Int)=((i+sp blR (s.drop i):Nat):Int) by omega]
   exact nxt
  have hc:=bFw (p:=blR) e (by omega)
  have c1:¬ cls (((dc (s.drop i)).1:Nat):Int)=3:=fun h=>hc (decide_eq_true h)
  refine Ev.bind (aHB _ _) ?_
  cases c2:List.isPrefixOf [40,42] (s.drop i) with
  | true =>
   refine Ev.isT rfl ?_
   refine Ev.bind (bH8 (by omega) c2) ?_
   rw [aNL e c1 i acc c2]
   refine Ev.d (fun h=>?_) (fun h=>?_)
   ·rw [if_pos (by omega)]; exact Ev.pure
   ·have hbd:=aZf ((s.drop i).length+1) 0 (s.drop i) 0
    have h':cmt (s.drop i)≠0:=by omega
    have hbd:=hbd h'
    have e2:cmF ((s.drop i).length+1) 0 (s.drop i) 0=cmt (s.drop i):=rfl
    rw [e2] at hbd
    rw [if_neg h',List.drop_drop]
    rw [eU (by omega) (by omega),show (i:Int)+((cmt (s.drop i):Nat):Int)=((i+cmt (s.drop i):Nat):Int) by omega]
    exact ih (i+cmt (s.drop i)) acc (by omega) (by omega) (by omega)
  | false =>
   refine Ev.isF rfl ?_
   refine Ev.bind (bHA (by omega) e) ?_
   cases c4:(aEz (s.drop i)).2.2.2.2.2 with
   | false =>
    rw [aWt e c1 i acc c2 c4]
    generalize aEz (s.drop i)=g at *
    obtain ⟨a1,a2,a3,a4,a5,a6⟩:=g
    simp only at c4
    subst c4
    exact Ev.isT rfl Ev.pure
   | true =>
    obtain ⟨k,x,v,n,e4,h4,h5,_⟩:=aPL e c4
    rw [aPP e c1 i acc c2 e4,e4]
    refine Ev.isF rfl ?_
    refine Ev.step (F:=fun K=>tZ K s acc (i:Int) (n:Int) k x v 0) (fun k=>by rw [tZ]) ?_
    refine Ev.opt (cJ (by simp; omega)) ?_
    rw [eU (by omega) (by omega),show (i:Int)+(n:Int)=((i+n:Nat):Int) by omega,List.drop_drop]
    exact ih (i+n) _ (by omega) (by omega) (by simp; omega)
theorem aUo {s:List UInt8} (hs:s.length≤16384):(Rk s∧Ev (fun K=>uQ K s) (lxS s 0 []))∨(¬ Rk s∧∃ j:Nat,j≤s.length∧Ev (fun K=>uQ K s) ([],(j:Int),4)):=by
 rcases aWd hs with ⟨a,b⟩ | ⟨a,j,b,c⟩
 ·refine .inl ⟨a,Ev.congr (f:=fun K=>_) (Ev.bind b (Ev.nF rfl ?_)) (fun K=>by rw [uQ])⟩
  exact bJx s (by omega) s.length 0 [] (by omega) (by omega) (by simp)
 ·refine .inr ⟨a,j,b,Ev.congr (f:=fun K=>_) (Ev.bind c ?_) (fun K=>by rw [uQ])⟩
  exact Ev.nT (show ¬ (4:Int)=0 by decide) Ev.pure
def LxB (s:List UInt8) (i:Nat) (acc:List aF):Prop :=
  ((lxS s i acc).2.2=0∧(lxS s i acc).2.1=0∧∃ l,(lxS s i acc).1=acc++l∧l.length≤s.length∧∀ t∈l,TkG (t.1,t.2.1) t.2.2.1∧(i:Int)≤t.2.2.2∧t.2.2.2<((i+s.length:Nat):Int)) ∨
  (∃ j:Nat,lxS s i acc=([],(j:Int),5)∧j≤i+s.length)
theorem bDG:∀ (m:Nat) (s:List UInt8) (i:Nat) (acc:List aF),s.length≤m→LxB s i acc:=by
 intro m
 induction m with
 | zero =>
  intro s i acc h
  obtain rfl:=List.length_eq_zero_iff.1 (Nat.le_zero.1 h)
  exact .inl (by rw [aGt]; exact ⟨rfl,rfl,[],by simp,Nat.le_refl _,fun t ht=>by cases ht⟩)
 | succ m ih =>
  intro s i acc h
  by_cases e:s=[]
  ·subst e
   exact .inl (by rw [aGt]; exact ⟨rfl,rfl,[],by simp,Nat.le_refl _,fun t ht=>by cases ht⟩)
  have h1:1≤s.length:=by cases s with | nil=>exact absurd rfl e | cons=>simp
  have far:∀ n,1≤n→n≤s.length→lxS s i acc=lxS (s.drop n) (i+n) acc→LxB s i acc:=fun n hn1 hn2 he=>by
   have q:=ih (s.drop n) (i+n) acc (by rw [List.length_drop]; omega)
   unfold LxB at q
   rw [← he,List.length_drop] at q
   rcases q with ⟨a,b,l,c,d,f⟩ | ⟨j,a,b⟩
   ·exact .inl ⟨a,b,l,c,by omega,fun t ht=>⟨(f t ht).1,by have:=(f t ht).2; omega,by have:=(f t ht).2; omega⟩⟩
   ·exact .inr ⟨j,a,by omega⟩
  by_cases c1:cls (((dc s).1:Nat):Int)=3
  ·exact far _ (oG s) (aPz e) (aNF e i acc c1)
  cases c2:List.isPrefixOf [40,42] s with
  | true =>
   by_cases c3:cmt s=0
   ·exact .inr ⟨i,by rw [aNL e c1 i acc c2,if_pos c3],by omega⟩
   ·have hbd:=aZf (s.length+1) 0 s 0 c3
    have e2:cmF (s.length+1) 0 s 0=cmt s:=rfl
    rw [e2] at hbd
    exact far (cmt s) (by omega) (by omega) (by rw [aNL e c1 i acc c2,if_neg c3])
  | false =>
   cases c4:(aEz s).2.2.2.2.2 with
   | false=>exact .inr ⟨i,aWt e c1 i acc c2 c4,by omega⟩
   | true =>
    obtain ⟨k,x,v,n,e4,h4,h5,h6⟩:=aPL e c4
    have q:=ih (s.drop n) (i+n) (acc++[(k,x,v,(i:Int))]) (by rw [List.length_drop]; omega)
    unfold LxB at q
    rw [← aPP e c1 i acc c2 e4,List.length_drop] at q
    rcases q with ⟨a,b,l,c,d,f⟩ | ⟨j,a,b⟩
    ·refine .inl ⟨a,b,(k,x,v,(i:Int)) :: l,by rw [c]; simp,by simp only [List.length_cons]; omega,fun t ht=>?_⟩
     rcases List.mem_cons.1 ht with rfl | ht
     ·exact ⟨h6,by simp only; omega,by simp only; omega⟩
     ·exact ⟨(f t ht).1,by have:=(f t ht).2; omega,by have:=(f t ht).2; omega⟩
    ·exact .inr ⟨j,a,by omega⟩
end Go.Proofs.YtjhfgiieicloeaaGreatDoor

/- The lexer: what stands behind a line's end changes nothing ahead of it; a token is told by what stands there, wherever that is. -/
namespace Go.Proofs.YtjhfgiieicloeaaGreatDoor
open Go Go.Am Go.Sx
section
variable (b:List UInt8)
theorem aT0 {s:List UInt8} (h:s≠[]):dc (s++10 :: b)=dc s:=by
 have h1:1≤s.length:=by cases s with | nil=>exact absurd rfl h | cons=>simp
 have e:∀ j,j<s.length→(s++10 :: b)[j]! = s[j]!:=fun j hj=>aLg hj
 have fin:∀ j,s.length=j→(s++10 :: b)[j]! = 10:=fun j hj=>by
  subst hj
  rw [getElem!_pos _ s.length (by simp),List.getElem_append_right (Nat.le_refl _)]
  simp
 have hl:(s++10 :: b).length=s.length+(b.length+1):=by simp
 have n10:¬ ((10:UInt8).toNat / 64=2):=by decide
 have k:∀ j,1≤j→j - 1<s.length→((j<s.length+(b.length+1)∧(s++10 :: b)[j]!.toNat / 64=2)↔(j<s.length∧s[j]!.toNat / 64=2)):=fun j h1 h2=>by
  by_cases hj:j<s.length
  ·rw [e j hj]; exact ⟨fun h=>⟨hj,h.2⟩,fun h=>⟨by omega,h.2⟩⟩
  ·have:s.length=j:=by omega
   rw [fin j this]; exact ⟨fun h=>absurd h.2 n10,fun h=>absurd h.1 hj⟩
 have k1:=k 1 (by omega) (by omega)
 unfold dc Lib.decodeN
 rw [e 0 (by omega),hl]
 generalize s[0]!.toNat=b0
 by_cases c0:b0<128
 ·rw [if_pos c0,if_pos c0]
 rw [if_neg c0,if_neg c0]
 by_cases c1:b0 / 32=6∧(1<s.length∧s[1]!.toNat / 64=2)
 ·rw [if_pos c1,if_pos ⟨c1.1,k1.2 c1.2⟩,e 1 c1.2.1]
 rw [if_neg c1,if_neg (fun h=>c1 ⟨h.1,k1.1 h.2⟩)]
 by_cases c2:b0 / 16=14∧(1<s.length∧s[1]!.toNat / 64=2)∧(2<s.length∧s[2]!.toNat / 64=2)
 ·have k2:=k 2 (by omega) (by omega)
  rw [if_pos c2,if_pos ⟨c2.1,k1.2 c2.2.1,k2.2 c2.2.2⟩,e 1 c2.2.1.1,e 2 c2.2.2.1]
 rw [if_neg c2,if_neg (fun h=>c2 ⟨h.1,k1.1 h.2.1,(k 2 (by omega) (by have:=(k1.1 h.2.1).1; omega)).1 h.2.2⟩)]
 by_cases c3:b0 / 8=30∧(1<s.length∧s[1]!.toNat / 64=2)∧(2<s.length∧s[2]!.toNat / 64=2)∧(3<s.length∧s[3]!.toNat / 64=2)
 ·have k2:=k 2 (by omega) (by omega)
  have k3:=k 3 (by omega) (by omega)
  rw [if_pos c3,if_pos ⟨c3.1,k1.2 c3.2.1,k2.2 c3.2.2.1,k3.2 c3.2.2.2⟩,e 1 c3.2.1.1,e 2 c3.2.2.1.1,e 3 c3.2.2.2.1]
 rw [if_neg c3,if_neg (fun h=>by
  have q1:=k1.1 h.2.1
  have q2:=(k 2 (by omega) (by omega)).1 h.2.2.1
  have q3:=(k 3 (by omega) (by omega)).1 h.2.2.2
  exact c3 ⟨h.1,q1,q2,q3⟩)]
theorem aXd {p:Int→Bool} (hp:p 10=false):∀ s,sp p (s++10 :: b)=sp p s:=by
 refine aHT ?_ fun s h ih=>?_
 ·have e:dc (10 :: b)=(10,1):=pX (by decide)
  rw [List.nil_append,aGw (by simp),e,if_neg (by show ¬ p 10=true; rw [hp]; decide)]
  rfl
 ·rw [aGw (s:=s++10 :: b) (by simp),aGw h,aT0 b h,aBM (aPz h),ih]
theorem aPf:∀ (x s:List UInt8),(10:UInt8)∉x→List.isPrefixOf x (s++10 :: b)=List.isPrefixOf x s
 | [],s,_=>by cases s <;> rfl
 | c :: x,[],h=>by
  show (c == 10 && List.isPrefixOf x b)=false
  rw [show (c == (10:UInt8))=false from beq_eq_false_iff_ne.2 fun e=>h (e ▸ List.mem_cons_self)]
  rfl
 | c :: x,d :: s,h=>by
  show (c == d && List.isPrefixOf x (s++10 :: b))=(c == d && List.isPrefixOf x s)
  rw [aPf x s fun hm=>h (List.mem_cons_of_mem _ hm)]
theorem aOz {s q:List UInt8} {n:Nat} (h:n≤s.length):(s++q).take n=s.take n:=List.take_append_of_le_length h
theorem bFC:∀ (n m:Nat) (ok:Bool) (t:List UInt8),t.length<n→n≤m→lgF m ok (t++10 :: b)=lgF n ok t:=by
 intro n
 induction n with
 | zero=>intro m ok t h; omega
 | succ n ih =>
  intro m ok t h hm
  obtain ⟨m,rfl⟩:∃ q,m=q+1:=⟨m - 1,by omega⟩
  unfold lgF
  cases t with
  | nil =>
   rw [if_neg (fun h=>by simp at h),if_neg (fun h=>by simp at h)]
  | cons c u =>
   by_cases hc:ok=true∧c=46
   ·obtain ⟨h1,rfl⟩:=hc
    rw [if_pos ⟨h1,rfl⟩,if_pos ⟨h1,rfl⟩]
    have hk:=aM5 (p:=rR) u
    simp only [List.cons_append,List.drop_succ_cons,List.drop_zero]
    rw [aXd b (by decide),aOz hk]
    have e:∀ v:List UInt8,List.drop (1+sp rR u) (46 :: v)=v.drop (sp rR u):=fun v=>by rw [Nat.add_comm,List.drop_succ_cons]
    rw [e,e,aBM hk,ih m _ _ (by rw [List.length_drop]; simp only [List.length_cons] at h; omega) (by omega)]
   ·rw [if_neg (fun h=>hc ⟨h.1,Option.some.inj h.2⟩),if_neg (fun h=>hc ⟨h.1,Option.some.inj h.2⟩)]
theorem aYt {t:List UInt8}:((t++10 :: b).head?≠some 46)↔(t.head?≠some 46):=by
 cases t with
 | nil=>simp
 | cons c u=>exact Iff.rfl
theorem bEL (s:List UInt8):lnS (s++10 :: b)=lnS s:=by
 have hk:=aM5 (p:=rR) s
 unfold lnS
 rw [aXd b (p:=rR) (by decide),aOz hk,aBM hk]
 have hl:(s++10 :: b).length=s.length+(b.length+1):=by simp
 have eg:=bFC b (s.length+1) ((s++10 :: b).length+1) (jG (s.take (sp rR s))) (s.drop (sp rR s)) (by rw [List.length_drop]; omega) (by omega)
 have hg:=bEg (s.length+1) (jG (s.take (sp rR s))) (s.drop (sp rR s))
 rw [List.length_drop] at hg
 rw [eg,aOz (n:=sp rR s+_) (by omega)]
 by_cases hc:s.take (sp rR s)∈aOe∧(s.drop (sp rR s)).head?≠some 46
 ·rw [if_pos hc,if_pos ⟨hc.1,(aYt b).2 hc.2⟩]
 ·rw [if_neg hc,if_neg (fun h=>hc ⟨h.1,(aYt b).1 h.2⟩)]
theorem bAI {s:List UInt8} {f:Nat} (hf:f≤s.length):nuS (s++10 :: b) f=nuS s f:=by
 have hk:=aM5 (p:=dgR) (s.drop f)
 have hk2:=hk
 rw [List.length_drop] at hk
 unfold nuS
 rw [aBM hf,aXd b (p:=dgR) (by decide),aBM (by omega),aXd b (p:=rR) (by decide),aOz hk2]
theorem aYB {s:List UInt8}:∀ l:List (List UInt8),(∀ x∈l,(10:UInt8)∉x)→l.find? (fun x=>x.isPrefixOf (s++10 :: b))=l.find? (fun x=>x.isPrefixOf s)
 | [],_=>rfl
 | x :: l,h=>by rw [List.find?_cons,List.find?_cons,aPf b x s (h x List.mem_cons_self),aYB l fun y hy=>h y (List.mem_cons_of_mem _ hy)]
theorem bDi {s:List UInt8} (h:s≠[]):aEz (s++10 :: b)=aEz s:=by
 have hh:(s++10 :: b).head?=s.head?:=by cases s with | nil=>exact absurd rfl h | cons=>rfl
 have h1:1≤s.length:=by cases s with | nil=>exact absurd rfl h | cons=>simp
 unfold aEz
 rw [aT0 b h,hh,bEL b s,bAI b (f:=0) (by omega),bAI b h1]
 have hf:fnd aL0 (s++10 :: b)=fnd aL0 s:=by unfold fnd; rw [aYB b aL0 (by decide)]
 rw [hf]
theorem bFu:∀ (n m d:Nat) (s:List UInt8) (i:Nat),n≤m→cmF n d s i≠0→cmF m d (s++10 :: b) i=cmF n d s i:=by
 intro n
 induction n with
 | zero=>intro m d s i _ h; exact absurd rfl h
 | succ n ih =>
  intro m d s i hm
  obtain ⟨m,rfl⟩:∃ q,m=q+1:=⟨m - 1,by omega⟩
  unfold cmF
  by_cases e:s=[]
  ·rw [if_pos e]; exact fun h=>absurd rfl h
  have h1:1≤s.length:=by cases s with | nil=>exact absurd rfl e | cons=>simp
  have hne:¬ (s++10 :: b=[]):=by simp
  rw [if_neg e,if_neg hne,aPf b _ s (by decide),aPf b _ s (by decide)]
  by_cases h2:List.isPrefixOf [40,42] s=true
  ·rw [if_pos h2,if_pos h2]
   obtain ⟨t,rfl⟩:=aHH h2
   exact ih m _ _ _ (by omega)
  rw [if_neg h2,if_neg h2]
  by_cases h3:List.isPrefixOf [42,41] s=true
  ·rw [if_pos h3,if_pos h3]
   obtain ⟨t,rfl⟩:=aHH h3
   by_cases hd:d=1
   ·rw [if_pos hd,if_pos hd]; exact fun _=>rfl
   ·rw [if_neg hd,if_neg hd]
    exact ih m _ _ _ (by omega)
  ·rw [if_neg h3,if_neg h3,aBM h1]
   exact ih m _ _ _ (by omega)
theorem bFU {s:List UInt8} (h:cmt s≠0):cmt (s++10 :: b)=cmt s:=bFu b _ _ 0 s 0 (by simp) h
theorem bFl:∀ (k:Nat) (s:List UInt8) (i:Nat) (acc l:List aF),s.length≤k→lxS s i acc=(l,0,0)→lxS (s++10 :: b) i acc=lxS (10 :: b) (i+s.length) l:=by
 intro k
 induction k with
 | zero =>
  intro s i acc l h e
  obtain rfl:=List.length_eq_zero_iff.1 (Nat.le_zero.1 h)
  rw [aGt] at e
  rw [show acc=l from congrArg (·.1) e]; rfl
 | succ k ih =>
  intro s i acc l h e
  by_cases h0:s=[]
  ·subst h0
   rw [aGt] at e
   rw [show acc=l from congrArg (·.1) e]; rfl
  have h1:1≤s.length:=by cases s with | nil=>exact absurd rfl h0 | cons=>simp
  have h0':s++10 :: b≠[]:=by simp
  have ed:=aT0 b h0
  have step:∀ (n:Nat) (acc':List aF),1≤n→n≤s.length→lxS (s.drop n) (i+n) acc'=(l,0,0)→lxS ((s++10 :: b).drop n) (i+n) acc'=lxS (10 :: b) (i+s.length) l:=fun n acc' n1 n2 e'=>by
   rw [aBM n2,ih _ _ _ l (by rw [List.length_drop]; omega) e',List.length_drop,show i+n+(s.length - n)=i+s.length by omega]
  by_cases c1:cls (((dc s).1:Nat):Int)=3
  ·rw [aNF h0 i acc c1] at e
   rw [aNF h0' i acc (by rw [ed]; exact c1),ed]
   exact step _ _ (oG s) (aPz h0) e
  have c1':¬ cls (((dc (s++10 :: b)).1:Nat):Int)=3:=by rw [ed]; exact c1
  have ep:=aPf b [40,42] s (by decide)
  cases c2:List.isPrefixOf [40,42] s with
  | true =>
   rw [aNL h0 c1 i acc c2] at e
   by_cases c3:cmt s=0
   ·rw [if_pos c3] at e; exact absurd (show (5:Int)=0 from congrArg (·.2.2) e) (by decide)
   ·rw [if_neg c3] at e
    have hbd:=aZf (s.length+1) 0 s 0 c3
    have e2:cmF (s.length+1) 0 s 0=cmt s:=rfl
    rw [e2] at hbd
    rw [aNL h0' c1' i acc (ep.trans c2),bFU b c3,if_neg c3]
    exact step _ _ (by omega) (by omega) e
  | false =>
   cases c4:(aEz s).2.2.2.2.2 with
   | false=>rw [aWt h0 c1 i acc c2 c4] at e; exact absurd (show (5:Int)=0 from congrArg (·.2.2) e) (by decide)
   | true =>
    obtain ⟨q,x,v,n,e4,h4,h5,h6⟩:=aPL h0 c4
    rw [aPP h0 c1 i acc c2 e4] at e
    rw [aPP h0' c1' i acc (ep.trans c2) ((bDi b h0).trans e4)]
    exact step _ _ h4 h5 e
end
def shT (d:Nat) (t:aF):aF:=(t.1,t.2.1,t.2.2.1,t.2.2.2+(d:Int))
theorem bBu (d:Nat):∀ (k:Nat) (s:List UInt8) (i:Nat) (acc l acc':List aF),s.length≤k→lxS s i acc=(acc++l,0,0)→lxS s (i+d) acc'=(acc'++l.map (shT d),0,0):=by
 have nil:∀ (i:Nat) (acc l acc':List aF),lxS [] i acc=(acc++l,0,0)→lxS [] (i+d) acc'=(acc'++l.map (shT d),0,0):=fun i acc l acc' e=>by
  rw [aGt] at e ⊢
  have e:acc=acc++l:=congrArg (·.1) e
  have:l=[]:=List.self_eq_append_right.1 e
  rw [this]; simp
 intro k
 induction k with
 | zero =>
  intro s i acc l acc' h e
  obtain rfl:=List.length_eq_zero_iff.1 (Nat.le_zero.1 h)
  exact nil i acc l acc' e
 | succ k ih =>
  intro s i acc l acc' h e
  by_cases h0:s=[]
  ·subst h0; exact nil i acc l acc' e
  have h1:1≤s.length:=by cases s with | nil=>exact absurd rfl h0 | cons=>simp
  by_cases c1:cls (((dc s).1:Nat):Int)=3
  ·rw [aNF h0 i acc c1] at e
   have:=oG s
   rw [aNF h0 _ acc' c1,Nat.add_right_comm]
   exact ih _ _ acc l acc' (by rw [List.length_drop]; omega) e
  cases c2:List.isPrefixOf [40,42] s with
  | true =>
   rw [aNL h0 c1 i acc c2] at e
   by_cases c3:cmt s=0
   ·rw [if_pos c3] at e; exact absurd (show (5:Int)=0 from congrArg (·.2.2) e) (by decide)
   ·rw [if_neg c3] at e
    rw [aNL h0 c1 _ acc' c2,if_neg c3,Nat.add_right_comm]
    exact ih _ _ acc l acc' (by rw [List.length_drop]; omega) e
  | false =>
   cases c4:(aEz s).2.2.2.2.2 with
   | false=>rw [aWt h0 c1 i acc c2 c4] at e; exact absurd (show (5:Int)=0 from congrArg (·.2.2) e) (by decide)
   | true =>
    obtain ⟨q,x,v,n,e4,h4,h5,h6⟩:=aPL h0 c4
    rw [aPP h0 c1 i acc c2 e4] at e
    rw [aPP h0 c1 _ acc' c2 e4,Nat.add_right_comm]
    rcases bDG _ (s.drop n) (i+n) (acc++[(q,x,v,(i:Int))]) (Nat.le_refl _) with ⟨_,_,l2,a,_⟩ | ⟨j,a,_⟩
    ·rw [e] at a
     have a:acc++l=acc++[(q,x,v,(i:Int))]++l2:=a
     rw [List.append_assoc] at a
     obtain rfl:=List.append_cancel_left a
     have e':lxS (s.drop n) (i+n) (acc++[(q,x,v,(i:Int))])=(acc++[(q,x,v,(i:Int))]++l2,0,0):=by rw [e]; simp
     have:=ih (s.drop n) (i+n) (acc++[(q,x,v,(i:Int))]) l2 (acc'++[(q,x,v,((i+d:Nat):Int))]) (by rw [List.length_drop]; omega) e'
     rw [this]
     simp [shT]
    ·rw [e] at a; exact absurd (show (0:Int)=5 from congrArg (·.2.2) a) (by decide)
theorem bCw {s t:List UInt8} {l m:List aF} (h1:lxS s 0 []=(l,0,0)) (h2:lxS t 0 []=(m,0,0)):lxS (s++10 :: t) 0 []=(l++m.map (shT (s.length+1)),0,0):=by
 rw [bFl t s.length s 0 [] l (Nat.le_refl _) h1]
 have e:dc (10 :: t)=(10,1):=pX (by decide)
 rw [aNF (by simp) _ _ (by rw [e]; decide),e]
 have:=bBu (s.length+1) t.length t 0 [] m l (Nat.le_refl _) h2
 rw [← this]
 show lxS t _ _=_
 congr 1
theorem bEZ {s t:List UInt8} (h1:Rk s) (h2:Rk t):Rk (s++10 :: t):=by
 refine aLi h1 (.cons (by simp) ?_ ?_)
 ·rw [show dc (10 :: t)=(10,1) from pX (by decide)]; exact ⟨by decide,fun _=>by decide,by decide⟩
 ·rw [show dc (10 :: t)=(10,1) from pX (by decide)]; exact h2
end Go.Proofs.YtjhfgiieicloeaaGreatDoor

