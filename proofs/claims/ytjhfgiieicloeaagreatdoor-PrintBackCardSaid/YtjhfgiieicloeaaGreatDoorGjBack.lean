/- Joined texts: P4, JPrintBack. -/
import Derived.Test.YtjhfgiieicloeaaGreatDoorGr
import Derived.Test.YtjhfgiieicloeaaGreatDoorGq
import Derived.Test.YtjhfgiieicloeaaGreatDoorGe
import Derived.Test.YtjhfgiieicloeaaGreatDoorTie
import Derived.Test.YtjhfgiieicloeaaGreatDoorCards
import Derived.SevenTiedAt
import Derived.Test.YtjhfgiieicloeaaGreatDoorGh
/- The law PrintBack. -/
namespace Go.Proofs.YtjhfgiieicloeaaGreatDoor
open Go Go.Am Go.Sx
theorem aJ5 (l:List Cell):∃ K,uJ K l=some true:=by
 refine Ev.get (f:=fun K=>uJ K l) ?_
 refine Ev.congr (f:=fun K=>_) ?_ (fun k=>by rw [uJ])
 refine Ev.bind (bBP l) (Ev.bind (bFV (bB4 l)) ?_)
 have hf:=aZ0 l
 have hw:=bAo (aTO l)
 have hc:=aKh (aTO l)
 generalize (xQ (aTO l))=o at *
 obtain ⟨t,e⟩:=o
 simp only at hf hc hw
 by_cases h0:chk 7 t=0
 ·rcases hc with ⟨rfl,_⟩ | ⟨he,_⟩
  ·exact absurd (aX0 h0).1 (by rw [aSa]; simp)
  ·subst he
   obtain ⟨s,e,p1,p2⟩:=bG0 hf h0 (by omega)
   refine Ev.bind p1 (Ev.nF rfl ?_)
   rcases p2 with ⟨rfl,rfl⟩ | ⟨rfl,_,p2⟩
   ·exact Ev.nT (by decide) (Ev.dT rfl (Ev.ret aLr))
   ·refine Ev.nF rfl (Ev.bind p2 (Ev.dT rfl (Ev.dT rfl ?_)))
    exact Ev.bind (bDX t (by omega)) (Ev.isT rfl (Ev.ret aLr))
 ·refine Ev.bind (bE8 hf h0) ?_
  refine Ev.n (fun _=>?_) (fun _=>?_)
  ·exact Ev.dT rfl (Ev.ret aLr)
  ·exact Ev.nT h0 (Ev.dT rfl (Ev.ret aLr))
end Go.Proofs.YtjhfgiieicloeaaGreatDoor

/- The law PrintBack answers true whatever it is handed, and leaves what it is handed as it was; the listed variables of Go's library stand as the program's text lays them: the given card. -/
namespace Go.Proofs.YtjhfgiieicloeaaGreatDoor
open Go Go.Am Go.Sx Go.ChangeShapes Go.WideShapes Go.ChangeAt Go.RowKit
set_option maxRecDepth 100000 in
theorem aIc (os:Os) (started:os.Started) (H:Type) (enc:TypeId×Value→H) :
  ReturnsInHanded {} Tryz.checked os 6 .any (fun w args=>(Rows.printBackSpec.pre enc Tryz.prog Tryz.f6 [] false w args∧laidMetH Tryz.prog bAl w)∧sizedMet enc Tryz.prog Tryz.f6 (OpenSpec.ofChange Rows.printBackSpec) false w args)
   (Rows.printBackSpec.post enc Tryz.prog Tryz.f6 false true false false) :=
 bCn (C:=Tryz.checked) (tb:=4) own started (by kernel_rfl) Tryz.func6
  (ChangeSpec.witness_shaped (enc:=enc) (C:=Tryz.checked) (os:=os) (X:=fun w _=>laidMetH Tryz.prog bAl w) false (laidWorld os) #[.agg #[(.slice none 0 0)]] 8 rfl (aYr os _) (by kernel_rfl) (by kernel_rfl) (by kernel_rfl) (door_met os _))
  kids full (by decide) rfl bJR rfl
  (fun ds h=>match ds,h with | [d0],_=>⟨rfl,rfl,rfl⟩)
  bBW (bBj bDO bC9)
  (fun x hx=>by
   obtain ⟨K,hK⟩:=aJ5 x.1
   exact ((aNV K).ok (fun _=>0) x.1 true hK).mono (by rintro av s ⟨ids',_,rfl,rfl⟩; exact ⟨rfl,rfl⟩))

theorem aLW:Rows.PrintBackSaid :=
 OpenClaim.holds_of_wide 6 Tryz.f6 rfl rfl rfl rfl rfl rfl rfl ⟨rfl,rfl,rfl,rfl,rfl⟩ rfl rfl rfl rfl rfl (by kernel_rfl) Tryz.func6 (by kernel_rfl)
  (of_decide_eq_true (by kernel_rfl)) (by unfold Func.isWrapper; first | (rw [if_pos (by decide +kernel)]; kernel_rfl) | (rw [if_neg (by decide +kernel)]; exact ⟨rfl,rfl⟩))
  (fun os started H enc _=>aIc os started H enc)

theorem law09_PrintBack_said:Rows.PrintBackCardSaid :=
 Claim7.holds_tied_plain_at .later [] [.data,.pinned] true (true, "6d3e77a36a4bbe39b6dc8af748f454e27c58654dc9f00cf5aba36e95f8132534") false
  aLW (fun _ h=>by cases h) (by kernel_rfl) (fun _ h=>by cases h) printBack_row_tie rfl ⟨rfl,rfl⟩ (by kernel_rfl) rfl
  (fun f fn hf hfn=>by
   obtain rfl:f=6:=Option.some.inj ((show Tryz.prog.funcNamed "marquetry/marquetrylaw09.PrintBack" = some 6 by kernel_rfl).symm.trans hf) |>.symm
   obtain rfl:fn=Tryz.f6:=(Option.some.inj (Tryz.func6.symm.trans hfn)).symm
   exact ⟨by kernel_rfl,fun j t ht=>by
    rw [Tryz.params6] at ht
    have h3:t=24:=by
     rcases j with _ | j
     ·have e:t=24:=by simpa using ht.symm
      exact e
     simp at ht
    subst h3
    exact (show Tryz.prog.wantsStandIn 24=false by kernel_rfl)⟩)
  (by kernel_rfl)
end Go.Proofs.YtjhfgiieicloeaaGreatDoor

