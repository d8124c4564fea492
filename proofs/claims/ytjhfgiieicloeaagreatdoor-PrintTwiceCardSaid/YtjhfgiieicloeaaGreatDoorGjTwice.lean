/- Joined texts: P5, JPrintTwice. -/
import Derived.Test.YtjhfgiieicloeaaGreatDoorGr
import Derived.Test.YtjhfgiieicloeaaGreatDoorGz
import Derived.Test.YtjhfgiieicloeaaGreatDoorGq
import Derived.Test.YtjhfgiieicloeaaGreatDoorGe
import Derived.Test.YtjhfgiieicloeaaGreatDoorTie
import Derived.Test.YtjhfgiieicloeaaGreatDoorCards
import Derived.SevenTiedAt
import Derived.Test.YtjhfgiieicloeaaGreatDoorGh
/- The law PrintTwice. -/
namespace Go.Proofs.YtjhfgiieicloeaaGreatDoor
open Go Go.Am Go.Sx
theorem bD2 {s:List UInt8} (hs:s.length≤2000):∃ t i e,Ev (fun K=>kK K s) (t,i,e)∧(e=0→aVz t∧chk 7 t=0∧t.w≤1048576):=by
 by_cases h:Rk s∧∃ l,lxS s 0 []=(l,0,0)
 ·obtain ⟨hr,l,hx⟩:=h
  obtain ⟨hl,ht⟩:=aZp hx
  have hl2:l.length≤20000:=by omega
  have hsrc:=bCn (n:=8 * l.length+2) (by omega) hr hx (Nat.le_refl _)
  have b:=aZ1 hl2 (n:=8 * l.length+2) (top:=true) (out:=[]) (i:=0) (Nat.zero_le _)
  have f:=(bJg hl2 (8 * l.length+2) 0 (Nat.zero_le _)).2.2.2.2.2.2.2.2.1 true [] (fun y hy=>by cases hy)
  generalize qE l (8 * l.length+2) true [] 0=g at *
  obtain ⟨ks,j,e⟩:=g
  obtain ⟨_,b2,b3⟩:=b
  simp only [aI] at b2 b3
  unfold bBR at hsrc
  simp only at hsrc
  by_cases hg:e=0∧j=l.length
  ·rw [if_pos hg] at hsrc
   obtain ⟨rfl,rfl⟩:=hg
   have b3:=b3 rfl
   have hk:=aCR ks
   obtain ⟨i1,i2⟩:=bD4 (ks:=ks) (f rfl) (by omega)
   by_cases h1:8192<oK (aMn ks)
   ·rw [if_pos h1] at hsrc
    exact ⟨_,_,_,hsrc,fun h=>absurd h (by decide)⟩
   rw [if_neg h1] at hsrc
   by_cases h2:60<pR (aMn ks)
   ·rw [if_pos h2] at hsrc
    exact ⟨_,_,_,hsrc,fun h=>absurd h (by decide)⟩
   rw [if_neg h2] at hsrc
   refine ⟨_,_,_,hsrc,fun _=>⟨⟨by rw [aH]; omega,fun _=>i2⟩,?_,by rw [aH]; omega⟩⟩
   rw [aKV (aKZ _ i2) (Nat.le_of_not_lt h1) (Nat.le_of_not_lt h2),if_pos i1]
  ·rw [if_neg hg] at hsrc
   refine ⟨_,_,_,hsrc,fun h=>?_⟩
   by_cases he:e=0
   ·rw [if_pos he] at h; cases h
   ·rw [if_neg he] at h; exact absurd h he
 ·obtain ⟨j,e,he,hj,_,hx⟩:=bAw (by omega) h
  exact ⟨_,_,_,hx,fun h=>absurd h he⟩
theorem aJc (s:List UInt8):∃ K,rY K s=some true:=by
 refine Ev.get (f:=fun K=>rY K s) ?_
 refine Ev.congr (f:=fun K=>_) ?_ (fun k=>by rw [rY])
 refine Ev.opt (bD3 (m:=2000)) ?_
 have hs:(s.take 2000).length≤2000:=by rw [List.length_take]; omega
 generalize s.take 2000=s at *
 obtain ⟨t,i,e,h1,h2⟩:=bD2 hs
 refine Ev.bind h1 ?_
 have canon:∀ {u:List UInt8} {m:Tr} {i:Int} {a:List UInt8} {f:Int},Ev (fun K=>kK K u) (m,i,0)→Ev (fun K=>aCn K m) (a,f)→Ev (fun K=>aAW K u) (a,0,f):=fun h k=>Ev.congr (f:=fun K=>_) (Ev.bind h (Ev.nF rfl (Ev.bind k Ev.pure))) (fun _=>rfl)
 by_cases he:e=0
 ·subst he
  obtain ⟨hf,h0,hw⟩:=h2 rfl
  obtain ⟨a,f,p1,p2⟩:=bF8 hf h0 hw
  refine Ev.bind (canon h1 p1) ?_
  rcases p2 with ⟨rfl,rfl⟩ | ⟨rfl,_,p2⟩
  ·refine Ev.nT (by decide) (Ev.dT rfl (Ev.dF (by decide) (Ev.dT rfl (Ev.ret aPH))))
  ·refine Ev.nF rfl (Ev.bind (canon p2 p1) ?_)
   show Ev (fun K=>lI K t 0 a a 0) true
   refine Ev.step (fun k=>by rw [lI]) ?_
   refine Ev.bind p2 (Ev.dT rfl (Ev.dT rfl (Ev.dT rfl (Ev.dT rfl ?_))))
   exact Ev.bind (bDu t (by omega)) (Ev.isT rfl (Ev.ret aPH))
 ·refine Ev.bind (a:=(([]:List UInt8),i,e)) (Ev.congr (f:=fun K=>_) (Ev.bind h1 (Ev.nT he Ev.pure)) (fun _=>rfl)) ?_
  exact Ev.nT he (Ev.dT rfl (Ev.dT rfl (Ev.ret aPH)))
end Go.Proofs.YtjhfgiieicloeaaGreatDoor

/- The law PrintTwice answers true whatever it is handed, and leaves what it is handed as it was; the listed variables of Go's library stand as the program's text lays them: the given card. -/
namespace Go.Proofs.YtjhfgiieicloeaaGreatDoor
open Go Go.Am Go.Sx Go.ChangeShapes Go.WideShapes Go.ChangeAt Go.RowKit
set_option maxRecDepth 100000 in
theorem aHe (os:Os) (started:os.Started) (H:Type) (enc:TypeId×Value→H) :
  ReturnsInHanded {} Tryz.checked os 5 .any (fun w args=>(Rows.printTwiceSpec.pre enc Tryz.prog Tryz.f5 [] false w args∧laidMetH Tryz.prog aZE w)∧sizedMet enc Tryz.prog Tryz.f5 (OpenSpec.ofChange Rows.printTwiceSpec) false w args)
   (Rows.printTwiceSpec.post enc Tryz.prog Tryz.f5 false true false false) :=
 bCD (C:=Tryz.checked) (tb:=4) own started (by kernel_rfl) Tryz.func5
  (ChangeSpec.witness_shaped (enc:=enc) (C:=Tryz.checked) (os:=os) (X:=fun w _=>laidMetH Tryz.prog aZE w) false (laidWorld os) #[.string ⟨#[]⟩] 8 rfl (aWO os _) (by kernel_rfl) (by kernel_rfl) (by kernel_rfl) (door_met os _))
  kids full (by decide) rfl bJf rfl
  (fun ds h=>match ds,h with | [d0],_=>⟨rfl,rfl,rfl⟩)
  bAT (bA1 bEl bCf)
  (fun x hx=>by
   obtain ⟨K,hK⟩:=aJc x.1
   exact ((aLf K).ok (fun _=>0) x.1 true hK).mono (by rintro av s ⟨ids',_,rfl,rfl⟩; exact ⟨rfl,rfl⟩))

theorem aJ4:Rows.PrintTwiceSaid :=
 OpenClaim.holds_of_wide 5 Tryz.f5 rfl rfl rfl rfl rfl rfl rfl ⟨rfl,rfl,rfl,rfl,rfl⟩ rfl rfl rfl rfl rfl (by kernel_rfl) Tryz.func5 (by kernel_rfl)
  (of_decide_eq_true (by kernel_rfl)) (by unfold Func.isWrapper; first | (rw [if_pos (by decide +kernel)]; kernel_rfl) | (rw [if_neg (by decide +kernel)]; exact ⟨rfl,rfl⟩))
  (fun os started H enc _=>aHe os started H enc)

theorem law09_PrintTwice_said:Rows.PrintTwiceCardSaid :=
 Claim7.holds_tied_plain_at .later [] [.data,.pinned] true (true, "6d3e77a36a4bbe39b6dc8af748f454e27c58654dc9f00cf5aba36e95f8132534") false
  aJ4 (fun _ h=>by cases h) (by kernel_rfl) (fun _ h=>by cases h) printTwice_row_tie rfl ⟨rfl,rfl⟩ (by kernel_rfl) rfl
  (fun f fn hf hfn=>by
   obtain rfl:f=5:=Option.some.inj ((show Tryz.prog.funcNamed "marquetry/marquetrylaw09.PrintTwice" = some 5 by kernel_rfl).symm.trans hf) |>.symm
   obtain rfl:fn=Tryz.f5:=(Option.some.inj (Tryz.func5.symm.trans hfn)).symm
   exact ⟨by kernel_rfl,fun j t ht=>by
    rw [Tryz.params5] at ht
    have h3:t=9:=by
     rcases j with _ | j
     ·have e:t=9:=by simpa using ht.symm
      exact e
     simp at ht
    subst h3
    exact (show Tryz.prog.wantsStandIn 9=false by kernel_rfl)⟩)
  (by kernel_rfl)
end Go.Proofs.YtjhfgiieicloeaaGreatDoor

