/- Joined texts: L1, L2, L3, L4. -/
import Derived.Test.YtjhfgiieicloeaaGreatDoorGv
/- The lexer, piece by piece: spans of runes, comments, what may be read. -/
namespace Go.Proofs.YtjhfgiieicloeaaGreatDoor
open Go Go.Am Go.Sx
def spF (p:Int→Bool):Nat→List UInt8→Nat
 | 0,_=>0
 | n+1,s=>if s=[] then 0 else if p (((dc s).1:Nat):Int)=true then (dc s).2+spF p n (s.drop (dc s).2) else 0
def sp (p:Int→Bool) (s:List UInt8):Nat:=spF p s.length s
/-! ### comments -/
/-! ### may it be read? -/
theorem Rk.step {s:List UInt8} (h:Rk s) (hs:s≠[]):okr (dc s).1∧Rk (s.drop (dc s).2):=by
 cases h with
 | nil=>exact absurd rfl hs
 | cons _ a b=>exact ⟨a,b⟩
end Go.Proofs.YtjhfgiieicloeaaGreatDoor

/- The lexer, piece by piece: words, names, numbers, signs. -/
namespace Go.Proofs.YtjhfgiieicloeaaGreatDoor
open Go Go.Am Go.Sx
theorem aYs {l:List UInt8} {n:Nat} (h:n<l.length):(l.drop n).head?=some l[n]:=by rw [iP h]; rfl
/-! ### numbers -/
end Go.Proofs.YtjhfgiieicloeaaGreatDoor

/- The lexer: a text's tokens. -/
namespace Go.Proofs.YtjhfgiieicloeaaGreatDoor
open Go Go.Am Go.Sx
end Go.Proofs.YtjhfgiieicloeaaGreatDoor

/- The lexer: what stands behind a line's end changes nothing ahead of it; a token is told by what stands there, wherever that is. -/
namespace Go.Proofs.YtjhfgiieicloeaaGreatDoor
open Go Go.Am Go.Sx
end Go.Proofs.YtjhfgiieicloeaaGreatDoor

