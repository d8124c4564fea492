/- Joined texts: KFn. -/
import Derived.Test.YtjhfgiieicloeaaGreatDoorGd
import Derived.Lib.Strings
import Derived.Lib.Slices
import Derived.Lib.Walk
import Derived.Lib.Bytealg
import Derived.Lib.Join
/- What the Go functions come to, as Lean functions with fuel. Printed by sxgen.py of this session. -/
namespace Go.Proofs.YtjhfgiieicloeaaGreatDoor
open Go Go.Am Go.Sx
abbrev bG:=List (Int×List UInt8×Int×Int)
abbrev iZ:Ty:=.list false (.pair (.int .i64) (.pair .str (.pair (.int .i64) (.int .i64))))
def utf8_ValidRune (_k:Nat) (p0:Int):Option (Bool):=(iteS (decide (0≤p0)) (iteS (decide (p0<55296)) (some true) (iteS (decide (57343<p0)) (iteS (decide (p0≤1114111)) (some true) (some false)) (some false))) (iteS (decide (57343<p0)) (iteS (decide (p0≤1114111)) (some true) (some false)) (some false)))
def pC (k:Nat) (p0:Int):Option (Int):=(iteS (decide (65≤p0)) (iteS (decide (p0≤90)) (some 1) (iteS (decide (97≤p0)) (iteS (decide (p0≤122)) (some 1) (iteS (decide (p0=95)) (some 1) (iteS (decide (48≤p0)) (iteS (decide (p0≤57)) (some 2) (iteS (decide (p0=32)) (some 3) (iteS (decide (p0=9)) (some 3) (iteS (decide (p0=10)) (some 3) (iteS (decide (128≤p0)) (iteS (!decide (p0=65533)) ((utf8_ValidRune k p0).bind fun v1=>(iteS v1 (some 1) (some 0))) (some 0)) (some 0)))))) (iteS (decide (p0=32)) (some 3) (iteS (decide (p0=9)) (some 3) (iteS (decide (p0=10)) (some 3) (iteS (decide (128≤p0)) (iteS (!decide (p0=65533)) ((utf8_ValidRune k p0).bind fun v2=>(iteS v2 (some 1) (some 0))) (some 0)) (some 0)))))))) (iteS (decide (p0=95)) (some 1) (iteS (decide (48≤p0)) (iteS (decide (p0≤57)) (some 2) (iteS (decide (p0=32)) (some 3) (iteS (decide (p0=9)) (some 3) (iteS (decide (p0=10)) (some 3) (iteS (decide (128≤p0)) (iteS (!decide (p0=65533)) ((utf8_ValidRune k p0).bind fun v3=>(iteS v3 (some 1) (some 0))) (some 0)) (some 0)))))) (iteS (decide (p0=32)) (some 3) (iteS (decide (p0=9)) (some 3) (iteS (decide (p0=10)) (some 3) (iteS (decide (128≤p0)) (iteS (!decide (p0=65533)) ((utf8_ValidRune k p0).bind fun v4=>(iteS v4 (some 1) (some 0))) (some 0)) (some 0))))))))) (iteS (decide (97≤p0)) (iteS (decide (p0≤122)) (some 1) (iteS (decide (p0=95)) (some 1) (iteS (decide (48≤p0)) (iteS (decide (p0≤57)) (some 2) (iteS (decide (p0=32)) (some 3) (iteS (decide (p0=9)) (some 3) (iteS (decide (p0=10)) (some 3) (iteS (decide (128≤p0)) (iteS (!decide (p0=65533)) ((utf8_ValidRune k p0).bind fun v5=>(iteS v5 (some 1) (some 0))) (some 0)) (some 0)))))) (iteS (decide (p0=32)) (some 3) (iteS (decide (p0=9)) (some 3) (iteS (decide (p0=10)) (some 3) (iteS (decide (128≤p0)) (iteS (!decide (p0=65533)) ((utf8_ValidRune k p0).bind fun v6=>(iteS v6 (some 1) (some 0))) (some 0)) (some 0)))))))) (iteS (decide (p0=95)) (some 1) (iteS (decide (48≤p0)) (iteS (decide (p0≤57)) (some 2) (iteS (decide (p0=32)) (some 3) (iteS (decide (p0=9)) (some 3) (iteS (decide (p0=10)) (some 3) (iteS (decide (128≤p0)) (iteS (!decide (p0=65533)) ((utf8_ValidRune k p0).bind fun v7=>(iteS v7 (some 1) (some 0))) (some 0)) (some 0)))))) (iteS (decide (p0=32)) (some 3) (iteS (decide (p0=9)) (some 3) (iteS (decide (p0=10)) (some 3) (iteS (decide (128≤p0)) (iteS (!decide (p0=65533)) ((utf8_ValidRune k p0).bind fun v8=>(iteS v8 (some 1) (some 0))) (some 0)) (some 0)))))))))
def cN:Nat→(List UInt8)→Int→Option (Int×Int)
 | 0,_,_=>none
 | k1+1,w0_0,w0_1=>(iteS (decide ((w0_1:Int).toNat<w0_0.length)) (iteS (decide ((((fL w0_0 ((w0_1:Int).toNat)).1:Nat):Int)=65533)) (some ((((w0_1:Int).toNat:Nat):Int),4)) (iteS (decide ((((fL w0_0 ((w0_1:Int).toNat)).1:Nat):Int)<32)) ((pC k1 (((fL w0_0 ((w0_1:Int).toNat)).1:Nat):Int)).bind fun v2=>(iteS (!decide (v2=3)) (some ((((w0_1:Int).toNat:Nat):Int),4)) (iteS (decide ((((fL w0_0 ((w0_1:Int).toNat)).1:Nat):Int)=127)) (some ((((w0_1:Int).toNat:Nat):Int),4)) (cN k1 w0_0 (((w0_1:Int).toNat+(fL w0_0 ((w0_1:Int).toNat)).2:Nat):Int))))) (iteS (decide ((((fL w0_0 ((w0_1:Int).toNat)).1:Nat):Int)=127)) (some ((((w0_1:Int).toNat:Nat):Int),4)) (cN k1 w0_0 (((w0_1:Int).toNat+(fL w0_0 ((w0_1:Int).toNat)).2:Nat):Int))))) (some (0,0)))
def qV (k:Nat) (p0:(List UInt8)):Option (Int×Int):=(iteS (decide (16384<((p0.length:Nat):Int))) (some (0,3)) (cN k p0 0))
def aAM (k:Nat) (p0:Int):Option (Bool):=((pC k p0).bind fun v1=>(some (decide (v1=3))))
def kL:Nat→(List UInt8)→(List UInt8)→Int→Option (Int)
 | 0,_,_,_=>none
 | k1+1,w0_0,w0_1,w0_2=>(iteS (decide ((w0_2:Int).toNat<w0_1.length)) ((aAM k1 (((fL w0_1 ((w0_2:Int).toNat)).1:Nat):Int)).bind fun v2=>(iteS (!v2) (some (((w0_2:Int).toNat:Nat):Int)) (kL k1 w0_0 w0_1 (((w0_2:Int).toNat+(fL w0_1 ((w0_2:Int).toNat)).2:Nat):Int)))) (some ((w0_0.length:Nat):Int)))
def uD (k:Nat) (p0:(List UInt8)):Option (Int):=(kL k p0 p0 0)
def stringslite_HasPrefix (_k:Nat) (p0:(List UInt8)) (p1:(List UInt8)):Option (Bool):=(iteS (decide (((p1.length:Nat):Int)≤((p0.length:Nat):Int))) ((jD p0 0 ((p1.length:Nat):Int)).bind fun v1=>(some (decide (v1=p1)))) (some false))
def strings_HasPrefix (k:Nat) (p0:(List UInt8)) (p1:(List UInt8)):Option (Bool):=((stringslite_HasPrefix k p0 p1).bind fun v1=>(some v1))
def iV:Nat→(List UInt8)→Int→Int→Option (Int)
 | 0,_,_,_=>none
 | k1+1,w0_0,w0_1,w0_2=>(iteS (decide (w0_2<((w0_0.length:Nat):Int))) ((jD w0_0 w0_2 ((w0_0.length:Nat):Int)).bind fun v2=>((strings_HasPrefix k1 v2 ([40,42]:List UInt8)).bind fun v3=>(iteS v3 (iV k1 w0_0 (IntKind.i64.wrap (w0_1+1)) (IntKind.i64.wrap (w0_2+2))) ((jD w0_0 w0_2 ((w0_0.length:Nat):Int)).bind fun v4=>((strings_HasPrefix k1 v4 ([42,41]:List UInt8)).bind fun v5=>(iteS v5 (iteS (decide ((IntKind.i64.wrap (w0_1 - 1))=0)) (some (IntKind.i64.wrap (w0_2+2))) (iV k1 w0_0 (IntKind.i64.wrap (w0_1 - 1)) (IntKind.i64.wrap (w0_2+2)))) (iV k1 w0_0 w0_1 (IntKind.i64.wrap (w0_2+1))))))))) (some 0))
def zB (k:Nat) (p0:(List UInt8)):Option (Int):=(iV k p0 0 0)
def vO:Nat→(List UInt8)→Int→Option (Int)
 | 0,_,_=>none
 | _k1+1,w0_0,w0_1=>(iteS (decide ((w0_1:Int).toNat<w0_0.length)) (some (((fL w0_0 ((w0_1:Int).toNat)).1:Nat):Int)) (some 0))
def aDn (k:Nat) (p0:(List UInt8)):Option (Int):=(vO k p0 0)
def aAZ (k:Nat) (p0:Int):Option (Bool):=((pC k p0).bind fun v1=>(iteS (decide (v1=1)) (some true) (iteS (decide (v1=2)) (some true) (some (decide (p0=39))))))
def fQ:Nat→(List UInt8)→(List UInt8)→Int→Option (Int)
 | 0,_,_,_=>none
 | k1+1,w0_0,w0_1,w0_2=>(iteS (decide ((w0_2:Int).toNat<w0_1.length)) ((aAZ k1 (((fL w0_1 ((w0_2:Int).toNat)).1:Nat):Int)).bind fun v2=>(iteS (!v2) (some (((w0_2:Int).toNat:Nat):Int)) (fQ k1 w0_0 w0_1 (((w0_2:Int).toNat+(fL w0_1 ((w0_2:Int).toNat)).2:Nat):Int)))) (some ((w0_0.length:Nat):Int)))
def oH (k:Nat) (p0:(List UInt8)):Option (Int):=(fQ k p0 p0 0)
def aDd (_k:Nat):Option ((List (List UInt8))):=(some ([([118,97,108]:List UInt8),([116,121,112,101]:List UInt8),([100,97,116,97,116,121,112,101]:List UInt8),([115,116,114,117,99,116,117,114,101]:List UInt8),([115,105,103,110,97,116,117,114,101]:List UInt8),([102,117,110,99,116,111,114]:List UInt8),([111,112,101,110]:List UInt8),([105,110,99,108,117,100,101]:List UInt8),([115,116,114,117,99,116]:List UInt8),([101,110,100]:List UInt8),([115,105,103]:List UInt8),([119,104,101,114,101]:List UInt8),([115,104,97,114,105,110,103]:List UInt8),([102,110]:List UInt8),([108,101,116]:List UInt8),([105,110]:List UInt8),([105,102]:List UInt8),([116,104,101,110]:List UInt8),([101,108,115,101]:List UInt8),([99,97,115,101]:List UInt8),([102,111,108,100]:List UInt8),([111,102]:List UInt8),([116,111]:List UInt8),([105,110,116]:List UInt8),([98,111,111,108]:List UInt8),([117,110,105,116]:List UInt8),([116,114,117,101]:List UInt8),([102,97,108,115,101]:List UInt8),([109,117]:List UInt8)]:List (List UInt8)))
def fU:Nat→(List (List UInt8))→(List UInt8)→Int→Option (Int)
 | 0,_,_,_=>none
 | k1+1,w0_0,w0_1,w0_2=>(iteS (decide (w0_2<((w0_0.length:Nat):Int))) ((aT w0_0 w0_2).bind fun v2=>(iteS (decide (w0_1=v2)) (some w0_2) (fU k1 w0_0 w0_1 (IntKind.i64.wrap (w0_2+1))))) (some (-1)))
def slices_Index (k:Nat) (p0:(List (List UInt8))) (p1:(List UInt8)):Option (Int):=(fU k p0 p1 0)
def slices_Contains (k:Nat) (p0:(List (List UInt8))) (p1:(List UInt8)):Option (Bool):=((slices_Index k p0 p1).bind fun v1=>(some (decide (0≤v1))))
def rC (k:Nat) (p0:(List UInt8)):Option (Bool):=((aDd k).bind fun v1=>((slices_Contains k v1 p0).bind fun v2=>(some v2)))
def utf8_word (_k:Nat) (p0:(List UInt8)):Option (Int):=((aT p0 0).bind fun c1=>((aT p0 1).bind fun c2=>((shI .shl .u64 (IntKind.u64.wrap ((c2.toNat:Nat):Int)) 8).bind fun v3=>((qA .or .u64 (IntKind.u64.wrap ((c1.toNat:Nat):Int)) v3).bind fun v4=>((aT p0 2).bind fun c5=>((shI .shl .u64 (IntKind.u64.wrap ((c5.toNat:Nat):Int)) 16).bind fun v6=>((qA .or .u64 v4 v6).bind fun v7=>((aT p0 3).bind fun c8=>((shI .shl .u64 (IntKind.u64.wrap ((c8.toNat:Nat):Int)) 24).bind fun v9=>((qA .or .u64 v7 v9).bind fun v10=>((aT p0 4).bind fun c11=>((shI .shl .u64 (IntKind.u64.wrap ((c11.toNat:Nat):Int)) 32).bind fun v12=>((qA .or .u64 v10 v12).bind fun v13=>((aT p0 5).bind fun c14=>((shI .shl .u64 (IntKind.u64.wrap ((c14.toNat:Nat):Int)) 40).bind fun v15=>((qA .or .u64 v13 v15).bind fun v16=>((aT p0 6).bind fun c17=>((shI .shl .u64 (IntKind.u64.wrap ((c17.toNat:Nat):Int)) 48).bind fun v18=>((qA .or .u64 v16 v18).bind fun v19=>((aT p0 7).bind fun c20=>((shI .shl .u64 (IntKind.u64.wrap ((c20.toNat:Nat):Int)) 56).bind fun v21=>((qA .or .u64 v19 v21).bind fun v22=>(some v22)))))))))))))))))))))))
mutual
def aR:Nat→(List UInt8)→Option (Bool)
 | 0,_=>none
 | k1+1,w0_0=>(iteS (decide (0<((w0_0.length:Nat):Int))) ((aT w0_0 0).bind fun c2=>(iteS (decide (((c2.toNat:Nat):Int)<128)) ((jD w0_0 1 ((w0_0.length:Nat):Int)).bind fun v3=>(iteS (decide (8<((v3.length:Nat):Int))) ((utf8_word k1 v3).bind fun v4=>((qA .and .u64 v4 9259542123273814144).bind fun v5=>(iteS (decide (v5=0)) ((jD v3 8 ((v3.length:Nat):Int)).bind fun v6=>(iteS (decide (16<((v6.length:Nat):Int))) ((jD v6 8 ((v6.length:Nat):Int)).bind fun v7=>((utf8_word k1 v6).bind fun v8=>((utf8_word k1 v7).bind fun v9=>((qA .or .u64 v8 v9).bind fun v10=>((qA .and .u64 v10 9259542123273814144).bind fun v11=>(iteS (decide (v11=0)) ((jD v6 16 ((v6.length:Nat):Int)).bind fun v12=>(dC k1 v12)) (aR k1 v6))))))) (aR k1 v6))) (aR k1 v3)))) (aR k1 v3))) ((aT aZP ((c2.toNat:Nat):Int)).bind fun v26=>((qA .and .u8 v26 7).bind fun v27=>((shI .shr .u8 v26 4).bind fun v28=>((aT aZo v28).bind fun v29=>(iteS (decide ((IntKind.i64.wrap v27)=2)) (iteS (decide (((w0_0.length:Nat):Int)<2)) (some false) ((aT w0_0 1).bind fun c30=>(iteS (decide (((c30.toNat:Nat):Int)<v29.1)) (some false) ((aT w0_0 1).bind fun c31=>(iteS (decide (v29.2<((c31.toNat:Nat):Int))) (some false) ((jD w0_0 2 ((w0_0.length:Nat):Int)).bind fun v32=>(aR k1 v32))))))) (iteS (decide ((IntKind.i64.wrap v27)=3)) (iteS (decide (((w0_0.length:Nat):Int)<3)) (some false) ((aT w0_0 1).bind fun c33=>(iteS (decide (((c33.toNat:Nat):Int)<v29.1)) (some false) ((aT w0_0 1).bind fun c34=>(iteS (decide (v29.2<((c34.toNat:Nat):Int))) (some false) ((aT w0_0 2).bind fun c35=>(iteS (decide (((c35.toNat:Nat):Int)<128)) (some false) ((aT w0_0 2).bind fun c36=>(iteS (decide (191<((c36.toNat:Nat):Int))) (some false) ((jD w0_0 3 ((w0_0.length:Nat):Int)).bind fun v37=>(aR k1 v37))))))))))) (iteS (decide ((IntKind.i64.wrap v27)=4)) (iteS (decide (((w0_0.length:Nat):Int)<4)) (some false) ((aT w0_0 1).bind fun c38=>(iteS (decide (((c38.toNat:Nat):Int)<v29.1)) (some false) ((aT w0_0 1).bind fun c39=>(iteS (decide (v29.2<((c39.toNat:Nat):Int))) (some false) ((aT w0_0 2).bind fun c40=>(iteS (decide (((c40.toNat:Nat):Int)<128)) (some false) ((aT w0_0 2).bind fun c41=>(iteS (decide (191<((c41.toNat:Nat):Int))) (some false) ((aT w0_0 3).bind fun c42=>(iteS (decide (((c42.toNat:Nat):Int)<128)) (some false) ((aT w0_0 3).bind fun c43=>(iteS (decide (191<((c43.toNat:Nat):Int))) (some false) ((jD w0_0 4 ((w0_0.length:Nat):Int)).bind fun v44=>(aR k1 v44))))))))))))))) (some false)))))))))) (some true))
def dC:Nat→(List UInt8)→Option (Bool)
 | 0,_=>none
 | k13+1,w1_0=>(iteS (decide (32<((w1_0.length:Nat):Int))) ((jD w1_0 8 ((w1_0.length:Nat):Int)).bind fun v14=>((jD w1_0 16 ((w1_0.length:Nat):Int)).bind fun v15=>((jD w1_0 24 ((w1_0.length:Nat):Int)).bind fun v16=>((utf8_word k13 w1_0).bind fun v17=>((utf8_word k13 v14).bind fun v18=>((qA .or .u64 v17 v18).bind fun v19=>((utf8_word k13 v15).bind fun v20=>((utf8_word k13 v16).bind fun v21=>((qA .or .u64 v20 v21).bind fun v22=>((qA .or .u64 v19 v22).bind fun v23=>((qA .and .u64 v23 9259542123273814144).bind fun v24=>(iteS (decide (v24=0)) ((jD w1_0 32 ((w1_0.length:Nat):Int)).bind fun v25=>(dC k13 v25)) (aR k13 w1_0))))))))))))) (aR k13 w1_0))
end
def utf8_ValidString (k:Nat) (p0:(List UInt8)):Option (Bool):=(aR k p0)
def kK:Nat→(List UInt8)→Int→Option (Bool)
 | 0,_,_=>none
 | k2+1,w0_0,w0_1=>(iteS (decide ((w0_1:Int).toNat<w0_0.length)) ((pC k2 (((fL w0_0 ((w0_1:Int).toNat)).1:Nat):Int)).bind fun v3=>(iteS (decide (v3=1)) (kK k2 w0_0 (((w0_1:Int).toNat+(fL w0_0 ((w0_1:Int).toNat)).2:Nat):Int)) (iteS (decide (v3=2)) (iteS (decide ((((w0_1:Int).toNat:Nat):Int)=0)) (some false) (kK k2 w0_0 (((w0_1:Int).toNat+(fL w0_0 ((w0_1:Int).toNat)).2:Nat):Int))) (iteS (decide ((((w0_1:Int).toNat:Nat):Int)=0)) (some false) (iteS (!decide ((((fL w0_0 ((w0_1:Int).toNat)).1:Nat):Int)=39)) (some false) (kK k2 w0_0 (((w0_1:Int).toNat+(fL w0_0 ((w0_1:Int).toNat)).2:Nat):Int))))))) (some true))
def tJ (k:Nat) (p0:(List UInt8)):Option (Bool):=(iteS (decide (p0=([]:List UInt8))) (some false) (iteS (decide (32<((p0.length:Nat):Int))) (some false) ((utf8_ValidString k p0).bind fun v1=>(iteS (!v1) (some false) (kK k p0 0)))))
def dW:Nat→(List UInt8)→Int→Bool→Option (Int×(List UInt8)×Int×Int×Int×Bool)
 | 0,_,_,_=>none
 | k11+1,w0_0,w0_1,w0_2=>(iteS w0_2 (iteS (decide (w0_1<((w0_0.length:Nat):Int))) ((aT w0_0 w0_1).bind fun c12=>(iteS (decide (((c12.toNat:Nat):Int)=46)) ((jD w0_0 (IntKind.i64.wrap (w0_1+1)) ((w0_0.length:Nat):Int)).bind fun v13=>((oH k11 v13).bind fun v14=>((jD w0_0 (IntKind.i64.wrap (w0_1+1)) ((w0_0.length:Nat):Int)).bind fun v15=>((jD v15 0 v14).bind fun v16=>((tJ k11 v16).bind fun v17=>(iteS v17 ((rC k11 v16).bind fun v18=>(dW k11 w0_0 (IntKind.i64.wrap (w0_1+(IntKind.i64.wrap (1+v14)))) (!v18))) (dW k11 w0_0 (IntKind.i64.wrap (w0_1+(IntKind.i64.wrap (1+v14)))) false))))))) ((jD w0_0 0 w0_1).bind fun v19=>(some (1,v19,0,0,w0_1,(decide (w0_1≤128))))))) ((jD w0_0 0 w0_1).bind fun v20=>(some (1,v20,0,0,w0_1,(decide (w0_1≤128)))))) ((jD w0_0 0 w0_1).bind fun v21=>(some (1,v21,0,0,w0_1,false))))
def aAk (k:Nat) (p0:(List UInt8)):Option (Int×(List UInt8)×Int×Int×Int×Bool):=((oH k p0).bind fun v1=>((jD p0 0 v1).bind fun v2=>((rC k v2).bind fun v3=>(iteS v3 (iteS (decide (((p0.length:Nat):Int)=v1)) ((jD p0 0 v1).bind fun v4=>(some (3,v4,0,0,v1,true))) ((aT p0 v1).bind fun c5=>(iteS (!decide (((c5.toNat:Nat):Int)=46)) ((jD p0 0 v1).bind fun v6=>(some (3,v6,0,0,v1,true))) ((jD p0 0 v1).bind fun v7=>((tJ k v7).bind fun v8=>(iteS v8 ((jD p0 0 v1).bind fun v9=>((rC k v9).bind fun v10=>(dW k p0 v1 (!v10)))) (dW k p0 v1 false))))))) ((jD p0 0 v1).bind fun v22=>((tJ k v22).bind fun v23=>(iteS v23 ((jD p0 0 v1).bind fun v24=>((rC k v24).bind fun v25=>(dW k p0 v1 (!v25)))) (dW k p0 v1 false))))))))
def sB (k:Nat) (p0:Int):Option (Bool):=((pC k p0).bind fun v1=>(some (decide (v1=2))))
def iQ:Nat→(List UInt8)→(List UInt8)→Int→Option (Int)
 | 0,_,_,_=>none
 | k1+1,w0_0,w0_1,w0_2=>(iteS (decide ((w0_2:Int).toNat<w0_1.length)) ((sB k1 (((fL w0_1 ((w0_2:Int).toNat)).1:Nat):Int)).bind fun v2=>(iteS (!v2) (some (((w0_2:Int).toNat:Nat):Int)) (iQ k1 w0_0 w0_1 (((w0_2:Int).toNat+(fL w0_1 ((w0_2:Int).toNat)).2:Nat):Int)))) (some ((w0_0.length:Nat):Int)))
def tQ (k:Nat) (p0:(List UInt8)):Option (Int):=(iQ k p0 p0 0)
def fD:Nat→(List Int)→Int→Int→Option ((List Int))
 | 0,_,_,_=>none
 | k1+1,w0_0,w0_1,w0_2=>(iteS (decide (w0_1<w0_2)) (if 0≤w0_2∧w0_2<((w0_0.length:Nat):Int) then ((aT w0_0 w0_2).bind fun v2=>(if 0≤w0_1∧w0_1<((w0_0.length:Nat):Int) then ((aT w0_0 w0_1).bind fun v3=>(if 0≤w0_1∧w0_1<((w0_0.length:Nat):Int) then ((aT w0_0 w0_1).bind fun _u4=>(if 0≤w0_2∧w0_2<(((w0_0.set (w0_1).toNat v2).length:Nat):Int) then ((aT (w0_0.set (w0_1).toNat v2) w0_2).bind fun _u5=>(fD k1 ((w0_0.set (w0_1).toNat v2).set (w0_2).toNat v3) (IntKind.i64.wrap (w0_1+1)) (IntKind.i64.wrap (w0_2 - 1)))) else none)) else none)) else none)) else none) (some w0_0))
def slices_Reverse (k:Nat) (p0:(List Int)):Option ((List Int)):=(fD k p0 0 (IntKind.i64.wrap (((p0.length:Nat):Int) - 1)))
mutual
def nO:Nat→Int→(List UInt8)→Option ((List UInt8))
 | 0,_,_=>none
 | k1+1,c0_0,c0_1=>(lC k1 c0_0 c0_1 ([]:List Int) true)
def lC:Nat→Int→(List UInt8)→(List Int)→Bool→Option ((List UInt8))
 | 0,_,_,_,_=>none
 | k2+1,w0_0,w0_1,w0_2,w0_3=>(iteS w0_3 ((bAd .rem .u64 w0_0 10).bind fun v3=>((aAs 1 w0_2 ([(IntKind.u8.wrap (IntKind.u64.wrap (48+v3)))]:List Int)).bind fun v4=>((bAd .quo .u64 w0_0 10).bind fun v5=>(lC k2 v5 w0_1 v4 (decide (0<v5)))))) ((slices_Reverse k2 w0_2).bind fun v6=>(if w0_2.length=v6.length then ((catS w0_1 (aHA v6)).bind fun v7=>(some v7)) else none)))
end
def tV (k:Nat) (p0:Int):Option ((List UInt8)):=(iteS (decide (p0<0)) (nO k (IntKind.u64.wrap (0 - (IntKind.u64.wrap p0))) ([126]:List UInt8)) (nO k (IntKind.u64.wrap p0) ([]:List UInt8)))
mutual
def iR:Nat→(List UInt8)→Int→Option (Int×(List UInt8)×Int×Int×Int×Bool)
 | 0,_,_=>none
 | k2+1,c0_0,c0_1=>((jD c0_0 c0_1 ((c0_0.length:Nat):Int)).bind fun v3=>((tQ k2 v3).bind fun v4=>(iteS (decide ((IntKind.i64.wrap (c0_1+v4))=c0_1)) (some (0,([]:List UInt8),0,0,0,false)) ((jD c0_0 (IntKind.i64.wrap (c0_1+v4)) ((c0_0.length:Nat):Int)).bind fun v5=>((oH k2 v5).bind fun v6=>(iteS (decide (0<v6)) (some (0,([]:List UInt8),0,0,0,false)) ((jD c0_0 c0_1 (IntKind.i64.wrap (c0_1+v4))).bind fun v7=>(fS k2 c0_1 (IntKind.i64.wrap (c0_1+v4)) 0 v7 0))))))))
def fS:Nat→Int→Int→Int→(List UInt8)→Int→Option (Int×(List UInt8)×Int×Int×Int×Bool)
 | 0,_,_,_,_,_=>none
 | k8+1,w0_0,w0_1,w0_2,w0_3,w0_4=>(iteS (decide ((w0_4:Int).toNat<w0_3.length)) (iteS (decide (1073741824<(IntKind.i64.wrap ((IntKind.i64.wrap (10 * w0_2))+(IntKind.i64.wrap (IntKind.i32.wrap ((((fL w0_3 ((w0_4:Int).toNat)).1:Nat):Int) - 48))))))) (some (0,([]:List UInt8),0,0,0,false)) (fS k8 w0_0 w0_1 (IntKind.i64.wrap ((IntKind.i64.wrap (10 * w0_2))+(IntKind.i64.wrap (IntKind.i32.wrap ((((fL w0_3 ((w0_4:Int).toNat)).1:Nat):Int) - 48))))) w0_3 (((w0_4:Int).toNat+(fL w0_3 ((w0_4:Int).toNat)).2:Nat):Int))) (iteS (decide (w0_0=1)) ((tV k8 (IntKind.i64.wrap (0 - w0_2))).bind fun v9=>(some (2,v9,(IntKind.i64.wrap (0 - w0_2)),0,w0_1,true))) ((tV k8 w0_2).bind fun v10=>(some (2,v10,w0_2,0,w0_1,true)))))
end
def oI (k:Nat) (p0:(List UInt8)):Option (Int×(List UInt8)×Int×Int×Int×Bool):=((aT p0 0).bind fun c1=>(iteS (decide (((c1.toNat:Nat):Int)=126)) (iR k p0 1) (iR k p0 0)))
def aDg (_k:Nat):Option ((List (List UInt8))):=(some ([([58,62]:List UInt8),([61,62]:List UInt8),([45,62]:List UInt8),([35,49]:List UInt8),([35,50]:List UInt8),([40]:List UInt8),([41]:List UInt8),([123]:List UInt8),([125]:List UInt8),([44]:List UInt8),([58]:List UInt8),([61]:List UInt8),([42]:List UInt8),([43]:List UInt8),([45]:List UInt8),([60]:List UInt8),([124]:List UInt8)]:List (List UInt8)))
def mY:Nat→(List UInt8)→(List (List UInt8))→Int→Option (Int×(List UInt8)×Int×Int×Int×Bool)
 | 0,_,_,_=>none
 | k23+1,w0_0,w0_1,w0_2=>(iteS (decide (w0_2<((w0_1.length:Nat):Int))) ((aT w0_1 w0_2).bind fun v24=>((strings_HasPrefix k23 w0_0 v24).bind fun v25=>(iteS v25 (some (3,v24,0,0,((v24.length:Nat):Int),true)) (mY k23 w0_0 w0_1 (IntKind.i64.wrap (w0_2+1)))))) (some (0,([]:List UInt8),0,0,0,false)))
def mM (k:Nat) (p0:(List UInt8)):Option (Int×(List UInt8)×Int×Int×Int×Bool):=((aDn k p0).bind fun v1=>((pC k v1).bind fun v2=>(iteS (decide (v2=1)) ((aAk k p0).bind fun (v3,v4,v5,v6,v7,v8)=>(some (v3,v4,v5,v6,v7,v8))) (iteS (decide (v2=2)) ((oI k p0).bind fun (v9,v10,v11,v12,v13,v14)=>(some (v9,v10,v11,v12,v13,v14))) ((aT p0 0).bind fun c15=>(iteS (decide (((c15.toNat:Nat):Int)=126)) ((oI k p0).bind fun (v16,v17,v18,v19,v20,v21)=>(some (v16,v17,v18,v19,v20,v21))) ((aDg k).bind fun v22=>(mY k p0 v22 0))))))))
mutual
def eN:Nat→(List UInt8)→bG→Int→Option (bG×Int×Int)
 | 0,_,_,_=>none
 | k3+1,w0_0,w0_1,w0_2=>(iteS (decide (w0_2<((w0_0.length:Nat):Int))) ((jD w0_0 w0_2 ((w0_0.length:Nat):Int)).bind fun v4=>((uD k3 v4).bind fun v5=>(iteS (decide (0<v5)) (eN k3 w0_0 w0_1 (IntKind.i64.wrap (w0_2+v5))) ((strings_HasPrefix k3 v4 ([40,42]:List UInt8)).bind fun v6=>(iteS v6 ((zB k3 v4).bind fun v7=>(iteS (decide (v7=0)) (some (([]:List (Int×(List UInt8)×Int×Int)),w0_2,5)) (eN k3 w0_0 w0_1 (IntKind.i64.wrap (w0_2+v7))))) ((mM k3 v4).bind fun (v8,v9,v10,v11,v12,v13)=>(iteS (!v13) (some (([]:List (Int×(List UInt8)×Int×Int)),w0_2,5)) (tZ k3 w0_0 w0_1 w0_2 v12 v8 v9 v10 v11)))))))) (some (w0_1,0,0)))
def tZ:Nat→(List UInt8)→bG→Int→Int→Int→(List UInt8)→Int→Int→Option (bG×Int×Int)
 | 0,_,_,_,_,_,_,_,_=>none
 | k14+1,c0_0,c0_1,c0_2,c0_3,c0_4,c0_5,c0_6,_c0_7=>((aAs 40 c0_1 ([(c0_4,c0_5,c0_6,c0_2)]:List (Int×(List UInt8)×Int×Int))).bind fun v15=>(eN k14 c0_0 v15 (IntKind.i64.wrap (c0_2+c0_3))))
end
def uQ (k:Nat) (p0:(List UInt8)):Option (bG×Int×Int):=((qV k p0).bind fun (v1,v2)=>(iteS (!decide (v2=0)) (some (([]:List (Int×(List UInt8)×Int×Int)),v1,v2)) (eN k p0 ([]:List (Int×(List UInt8)×Int×Int)) 0)))
def aFm (_k:Nat) (p0:bG) (p1:Int):Option (bG×Int×Int):=(iteS (decide (p1<0)) (some (p0,0,2)) (iteS (decide (((p0.length:Nat):Int)<p1)) (some (p0,0,2)) (some (p0,p1,0))))
def aFq (_k:Nat) (p0:bG) (p1:Int):Option (Bool):=(iteS (decide (0≤p1)) (some (decide (p1<((p0.length:Nat):Int)))) (some false))
def kY (k:Nat) (p0:bG) (p1:Int) (p2:(List UInt8)):Option (Bool):=((aFq k p0 p1).bind fun v1=>(iteS v1 ((aT p0 p1).bind fun v2=>(iteS (decide (v2.1=3)) ((aT p0 p1).bind fun v3=>(some (decide (v3.2.1=p2)))) (some false))) (some false)))
def aQ (k:Nat) (p0:bG) (p1:Int) (p2:Int) (p3:(List UInt8)):Option (Bool×bG×Int×Int):=(iteS (!decide (p2=0)) (some (false,p0,p1,p2)) ((kY k p0 p1 p3).bind fun v1=>(iteS (!v1) (some (false,p0,p1,p2)) (some (true,p0,(IntKind.i64.wrap (p1+1)),p2)))))
def eF (k:Nat) (p0:(List UInt8)):Option (Bool):=((tJ k p0).bind fun v1=>(iteS v1 ((rC k p0).bind fun v2=>(some (!v2))) (some false)))
def vZ (k:Nat) (p0:bG) (p1:Int):Option ((List UInt8)×Bool):=((aFq k p0 p1).bind fun v1=>(iteS (!v1) (some (([]:List UInt8),false)) ((aT p0 p1).bind fun v2=>(iteS (!decide (v2.1=1)) (some (([]:List UInt8),false)) ((aT p0 p1).bind fun v3=>((eF k v3.2.1).bind fun v4=>(iteS (!v4) (some (([]:List UInt8),false)) ((aT p0 p1).bind fun v5=>(some (v5.2.1,true))))))))))
def dM (_k:Nat) (p0:bG) (p1:Int) (p2:Int) (p3:Int):Option (bG×Int×Int):=(iteS (decide (p2=0)) (some (p0,p1,p3)) (some (p0,p1,p2)))
def gZ (k:Nat) (p0:bG) (p1:Int) (p2:Int):Option ((List UInt8)×bG×Int×Int):=((vZ k p0 p1).bind fun (v1,v2)=>(iteS (!decide (p2=0)) ((dM k p0 p1 p2 6).bind fun (v3,v4,v5)=>(some (([]:List UInt8),v3,v4,v5))) (iteS (!v2) ((dM k p0 p1 p2 6).bind fun (v6,v7,v8)=>(some (([]:List UInt8),v6,v7,v8))) (some (v1,p0,(IntKind.i64.wrap (p1+1)),p2)))))
def bO (k:Nat) (p0:bG) (p1:Int) (p2:Int):Option ((List UInt8)×bG×Int×Int):=((gZ k p0 p1 p2).bind fun (v1,v2,v3,v4)=>(some (v1,v2,v3,v4)))
def qW (_k:Nat) (p0:Int) (p1:(List UInt8)):Option (Int×Int×(List UInt8)×(List UInt8)):=(some (p0,0,p1,([]:List UInt8)))
def aAS (_k:Nat) (p0:bG) (p1:Int):Option (bG×Int×Int):=(iteS (decide (p1<0)) (some (p0,0,2)) (iteS (decide (((p0.length:Nat):Int)<p1)) (some (p0,0,2)) (some (p0,p1,0))))
def jC:Nat→Int→(List UInt8)→Int→Option (Int)
 | 0,_,_,_=>none
 | k1+1,w0_0,w0_1,w0_2=>(iteS (decide ((w0_2:Int).toNat<w0_1.length)) (jC k1 (IntKind.i64.wrap (w0_0+1)) w0_1 (((w0_2:Int).toNat+(fL w0_1 ((w0_2:Int).toNat)).2:Nat):Int)) (some w0_0))
def utf8_RuneCountInString (k:Nat) (p0:(List UInt8)):Option (Int):=(jC k 0 p0 0)
def iU:Nat→(List UInt8)→Int→Int→Int→Option (Int×Int)
 | 0,_,_,_,_=>none
 | _k13+1,c0_0,c0_1,c0_2,c0_3=>(iteS (decide (c0_2≤2)) ((qA .and .u8 c0_1 31).bind fun v14=>((shI .shl .i32 (IntKind.i32.wrap v14) 6).bind fun v15=>((qA .and .u8 c0_3 63).bind fun v16=>((qA .or .i32 v15 (IntKind.i32.wrap v16)).bind fun v17=>(some (v17,2)))))) ((aT c0_0 2).bind fun c18=>(iteS (decide (((c18.toNat:Nat):Int)<128)) (some (65533,1)) (iteS (decide (191<((c18.toNat:Nat):Int))) (some (65533,1)) (iteS (decide (c0_2≤3)) ((qA .and .u8 c0_1 15).bind fun v19=>((shI .shl .i32 (IntKind.i32.wrap v19) 12).bind fun v20=>((qA .and .u8 c0_3 63).bind fun v21=>((shI .shl .i32 (IntKind.i32.wrap v21) 6).bind fun v22=>((qA .or .i32 v20 v22).bind fun v23=>((qA .and .u8 ((c18.toNat:Nat):Int) 63).bind fun v24=>((qA .or .i32 v23 (IntKind.i32.wrap v24)).bind fun v25=>(some (v25,3))))))))) ((aT c0_0 3).bind fun c26=>(iteS (decide (((c26.toNat:Nat):Int)<128)) (some (65533,1)) (iteS (decide (191<((c26.toNat:Nat):Int))) (some (65533,1)) ((qA .and .u8 c0_1 7).bind fun v27=>((shI .shl .i32 (IntKind.i32.wrap v27) 18).bind fun v28=>((qA .and .u8 c0_3 63).bind fun v29=>((shI .shl .i32 (IntKind.i32.wrap v29) 12).bind fun v30=>((qA .or .i32 v28 v30).bind fun v31=>((qA .and .u8 ((c18.toNat:Nat):Int) 63).bind fun v32=>((shI .shl .i32 (IntKind.i32.wrap v32) 6).bind fun v33=>((qA .or .i32 v31 v33).bind fun v34=>((qA .and .u8 ((c26.toNat:Nat):Int) 63).bind fun v35=>((qA .or .i32 v34 (IntKind.i32.wrap v35)).bind fun v36=>(some (v36,4))))))))))))))))))))
def utf8_decodeRuneInStringSlow (k:Nat) (p0:(List UInt8)):Option (Int×Int):=(iteS (decide (((p0.length:Nat):Int)<1)) (some (65533,0)) ((aT p0 0).bind fun c1=>((aT aZP ((c1.toNat:Nat):Int)).bind fun v2=>(iteS (decide (240≤v2)) ((shI .shl .i32 (IntKind.i32.wrap v2) 31).bind fun v3=>((shI .shr .i32 v3 31).bind fun v4=>((aT p0 0).bind fun c5=>((qA .andNot .i32 (IntKind.i32.wrap ((c5.toNat:Nat):Int)) v4).bind fun v6=>((qA .and .i32 65533 v4).bind fun v7=>((qA .or .i32 v6 v7).bind fun v8=>(some (v8,1)))))))) ((qA .and .u8 v2 7).bind fun v9=>((shI .shr .u8 v2 4).bind fun v10=>((aT aZo v10).bind fun v11=>(iteS (decide (((p0.length:Nat):Int)<(IntKind.i64.wrap v9))) (some (65533,1)) ((aT p0 1).bind fun c12=>(iteS (decide (((c12.toNat:Nat):Int)<v11.1)) (some (65533,1)) (iteS (decide (v11.2<((c12.toNat:Nat):Int))) (some (65533,1)) (iU k p0 ((c1.toNat:Nat):Int) (IntKind.i64.wrap v9) ((c12.toNat:Nat):Int)))))))))))))
def utf8_DecodeRuneInString (k:Nat) (p0:(List UInt8)):Option (Int×Int):=(iteS (!decide (p0=([]:List UInt8))) ((aT p0 0).bind fun c1=>(iteS (decide (((c1.toNat:Nat):Int)<128)) ((aT p0 0).bind fun c2=>(some ((IntKind.i32.wrap ((c2.toNat:Nat):Int)),1))) ((utf8_decodeRuneInStringSlow k p0).bind fun (v3,v4)=>(some (v3,v4))))) ((utf8_decodeRuneInStringSlow k p0).bind fun (v5,v6)=>(some (v5,v6))))
mutual
def lV:Nat→(List UInt8)→Int→Option ((List (List UInt8)))
 | 0,_,_=>none
 | k2+1,c0_0,c0_1=>((mkL 16 ([]:(List UInt8)) c0_1).bind fun v3=>(pF k2 c0_0 c0_1 v3 0))
def pF:Nat→(List UInt8)→Int→(List (List UInt8))→Int→Option ((List (List UInt8)))
 | 0,_,_,_,_=>none
 | k4+1,w0_0,w0_1,w0_2,w0_3=>(iteS (decide (w0_3<(IntKind.i64.wrap (w0_1 - 1)))) ((utf8_DecodeRuneInString k4 w0_0).bind fun (_v5,v6)=>((jD w0_0 0 v6).bind fun v7=>(if 0≤w0_3∧w0_3<((w0_2.length:Nat):Int) then ((aT w0_2 w0_3).bind fun _u8=>((jD w0_0 v6 ((w0_0.length:Nat):Int)).bind fun v9=>(pF k4 v9 w0_1 (w0_2.set (w0_3).toNat v7) (IntKind.i64.wrap (w0_3+1))))) else none))) (iteS (decide (0<w0_1)) (if 0≤(IntKind.i64.wrap (w0_1 - 1))∧(IntKind.i64.wrap (w0_1 - 1))<((w0_2.length:Nat):Int) then ((aT w0_2 (IntKind.i64.wrap (w0_1 - 1))).bind fun _u10=>(some (w0_2.set ((IntKind.i64.wrap (w0_1 - 1))).toNat w0_0))) else none) (some w0_2)))
end
def aDp (k:Nat) (p0:(List UInt8)) (p1:Int):Option ((List (List UInt8))):=((utf8_RuneCountInString k p0).bind fun v1=>(iteS (decide (p1<0)) (lV k p0 v1) (iteS (decide (v1<p1)) (lV k p0 v1) (lV k p0 p1))))
def strings_Count (_:Nat) (p0:List UInt8) (p1:List UInt8):Option Int:=match p1 with | [c]=>some (Lib.countByte p0 c) | _=>none
def strings_Index (_:Nat) (p0:List UInt8) (p1:List UInt8):Option Int:=match p1 with | [c]=>some (Lib.indexByte p0 c) | _=>none
mutual
def kV:Nat→(List UInt8)→(List UInt8)→Int→Int→Option ((List (List UInt8)))
 | 0,_,_,_,_=>none
 | k3+1,c0_0,c0_1,c0_2,c0_3=>((mkL 16 ([]:(List UInt8)) (if (IntKind.i64.wrap (((c0_0.length:Nat):Int)+1))<c0_3 then (IntKind.i64.wrap (((c0_0.length:Nat):Int)+1)) else c0_3)).bind fun v4=>(gK k3 c0_0 c0_1 c0_2 (IntKind.i64.wrap ((if (IntKind.i64.wrap (((c0_0.length:Nat):Int)+1))<c0_3 then (IntKind.i64.wrap (((c0_0.length:Nat):Int)+1)) else c0_3) - 1)) v4 0))
def gK:Nat→(List UInt8)→(List UInt8)→Int→Int→(List (List UInt8))→Int→Option ((List (List UInt8)))
 | 0,_,_,_,_,_,_=>none
 | k5+1,w0_0,w0_1,w0_2,w0_3,w0_4,w0_5=>(iteS (decide (w0_5<w0_3)) ((strings_Index k5 w0_0 w0_1).bind fun v6=>(iteS (decide (v6<0)) (if 0≤w0_5∧w0_5<((w0_4.length:Nat):Int) then ((aT w0_4 w0_5).bind fun _u7=>((jD (w0_4.set (w0_5).toNat w0_0) 0 (IntKind.i64.wrap (w0_5+1))).bind fun v8=>(some v8))) else none) ((jD w0_0 0 (IntKind.i64.wrap (v6+w0_2))).bind fun v9=>(if 0≤w0_5∧w0_5<((w0_4.length:Nat):Int) then ((aT w0_4 w0_5).bind fun _u10=>((jD w0_0 (IntKind.i64.wrap (v6+((w0_1.length:Nat):Int))) ((w0_0.length:Nat):Int)).bind fun v11=>(gK k5 v11 w0_1 w0_2 w0_3 (w0_4.set (w0_5).toNat v9) (IntKind.i64.wrap (w0_5+1))))) else none)))) (if 0≤w0_5∧w0_5<((w0_4.length:Nat):Int) then ((aT w0_4 w0_5).bind fun _u12=>((jD (w0_4.set (w0_5).toNat w0_0) 0 (IntKind.i64.wrap (w0_5+1))).bind fun v13=>(some v13))) else none))
end
def strings_genSplit (k:Nat) (p0:(List UInt8)) (p1:(List UInt8)) (p2:Int) (p3:Int):Option ((List (List UInt8))):=(iteS (decide (p3=0)) (some ([]:List (List UInt8))) (iteS (decide (p1=([]:List UInt8))) ((aDp k p0 p3).bind fun v1=>(some v1)) (iteS (decide (p3<0)) ((strings_Count k p0 p1).bind fun v2=>(kV k p0 p1 p2 (IntKind.i64.wrap (v2+1)))) (kV k p0 p1 p2 p3))))
def strings_Split (k:Nat) (p0:(List UInt8)) (p1:(List UInt8)):Option ((List (List UInt8))):=((strings_genSplit k p0 p1 0 (-1)).bind fun v1=>(some v1))
def aA7 (k:Nat) (p0:(List UInt8)):Option (Bool):=((eF k p0).bind fun v1=>(some (!v1)))
def cK:Nat→(List (List UInt8))→Int→Option (Int)
 | 0,_,_=>none
 | k1+1,w0_0,w0_1=>(iteS (decide (w0_1<((w0_0.length:Nat):Int))) ((aT w0_0 w0_1).bind fun v2=>((aA7 k1 v2).bind fun v3=>(iteS v3 (some w0_1) (cK k1 w0_0 (IntKind.i64.wrap (w0_1+1)))))) (some (-1)))
def tM (k:Nat) (p0:(List (List UInt8))):Option (Int):=(cK k p0 0)
def pZ (k:Nat) (p0:(List (List UInt8))):Option (Bool):=((tM k p0).bind fun v1=>(some (decide (0≤v1))))
def lR (k:Nat) (p0:(List UInt8)):Option (Bool):=(iteS (decide (((p0.length:Nat):Int)≤128)) ((strings_Split k p0 ([46]:List UInt8)).bind fun v1=>((pZ k v1).bind fun v2=>(some (!v2)))) (some false))
def aAB (k:Nat) (p0:bG) (p1:Int):Option ((List UInt8)×Bool):=((aFq k p0 p1).bind fun v1=>(iteS (!v1) (some (([]:List UInt8),false)) ((aT p0 p1).bind fun v2=>(iteS (!decide (v2.1=1)) (some (([]:List UInt8),false)) ((aT p0 p1).bind fun v3=>((lR k v3.2.1).bind fun v4=>(iteS (!v4) (some (([]:List UInt8),false)) ((aT p0 p1).bind fun v5=>(some (v5.2.1,true))))))))))
def pI (_k:Nat) (p0:Int) (p1:(List UInt8)) (p2:(List Tr)):Option (Tr):=(some (.node p0 0 p1 ([]:List UInt8) p2))
def bK (k:Nat) (p0:bG) (p1:Int) (p2:Int) (p3:(List UInt8)):Option (Bool×bG×Int×Int):=(iteS (!decide (p2=0)) (some (false,p0,p1,p2)) ((kY k p0 p1 p3).bind fun v1=>(iteS (!v1) (some (false,p0,p1,p2)) (some (true,p0,(IntKind.i64.wrap (p1+1)),p2)))))
def cQ (_k:Nat) (p0:bG) (p1:Int) (p2:Int) (p3:Int):Option (bG×Int×Int):=(iteS (decide (p2=0)) (some (p0,p1,p3)) (some (p0,p1,p2)))
def dP (k:Nat) (p0:bG) (p1:Int) (p2:Int) (p3:(List UInt8)):Option (bG×Int×Int):=((bK k p0 p1 p2 p3).bind fun (v1,v2,v3,v4)=>(iteS (!v1) ((cQ k v2 v3 v4 6).bind fun (v5,v6,v7)=>(some (v5,v6,v7))) (some (v2,v3,v4))))
def fB (k:Nat) (p0:bG) (p1:Int) (p2:Int):Option ((List UInt8)×bG×Int×Int):=((vZ k p0 p1).bind fun (v1,v2)=>(iteS (!decide (p2=0)) ((cQ k p0 p1 p2 6).bind fun (v3,v4,v5)=>(some (([]:List UInt8),v3,v4,v5))) (iteS (!v2) ((cQ k p0 p1 p2 6).bind fun (v6,v7,v8)=>(some (([]:List UInt8),v6,v7,v8))) (some (v1,p0,(IntKind.i64.wrap (p1+1)),p2)))))
mutual
def iM:Nat→bG→Int→Int→Tr→(List UInt8)→Int→Option (Tr×bG×Int×Int)
 | 0,_,_,_,_,_,_=>none
 | k+1,p0,p1,p2,p3,p4,p5=>((bK k p0 p1 p2 p4).bind fun (v1,v2,v3,v4)=>(iteS (!v1) (some (p3,v2,v3,v4)) ((bP k v2 v3 v4).bind fun (v5,v6,v7,v8)=>((pI k p5 ([]:List UInt8) ([p3,v5]:List Tr)).bind fun v9=>(some (v9,v6,v7,v8))))))
def kF:Nat→bG→Int→Int→Tr→(List UInt8)→Int→Option (Tr×bG×Int×Int)
 | 0,_,_,_,_,_,_=>none
 | k+1,p0,p1,p2,p3,p4,p5=>((bK k p0 p1 p2 p4).bind fun (v1,v2,v3,v4)=>(iteS (!v1) (some (p3,v2,v3,v4)) ((bN k v2 v3 v4).bind fun (v5,v6,v7,v8)=>((pI k p5 ([]:List UInt8) ([p3,v5]:List Tr)).bind fun v9=>(some (v9,v6,v7,v8))))))
def fC:Nat→bG→Int→Int→Option ((List Tr)×bG×Int×Int)
 | 0,_,_,_=>none
 | k+1,p0,p1,p2=>(dH k ([]:List Tr) p0 p1 p2 ([]:List ((List UInt8)×Bool)))
def dH:Nat→(List Tr)→bG→Int→Int→(List ((List UInt8)×Bool))→Option ((List Tr)×bG×Int×Int)
 | 0,_,_,_,_,_=>none
 | k1+1,w0_0,w0_1,w0_2,w0_3,w0_4=>(iteS (decide (w0_3=0)) ((fB k1 w0_1 w0_2 w0_3).bind fun (v2,v3,v4,v5)=>(iteS (decide (v5=0)) (iteS ((jN w0_4 v2).getD false) ((cQ k1 v3 w0_2 v5 9).bind fun (v6,v7,v8)=>(bV k1 w0_0 v2 v6 v7 v8 w0_4)) (bV k1 w0_0 v2 v3 v4 v5 w0_4)) (bV k1 w0_0 v2 v3 v4 v5 w0_4))) (some (w0_0,w0_1,w0_2,w0_3)))
def bV:Nat→(List Tr)→(List UInt8)→bG→Int→Int→(List ((List UInt8)×Bool))→Option ((List Tr)×bG×Int×Int)
 | 0,_,_,_,_,_,_=>none
 | k9+1,c0_0,c0_1,c0_2,c0_3,c0_4,c0_5=>((dP k9 c0_2 c0_3 c0_4 ([111,102]:List UInt8)).bind fun (v10,v11,v12)=>((bP k9 v10 v11 v12).bind fun (v13,v14,v15,v16)=>((pI k9 8 c0_1 ([v13]:List Tr)).bind fun v17=>((aAs 8 c0_0 ([v17]:List Tr)).bind fun v18=>((bK k9 v14 v15 v16 ([124]:List UInt8)).bind fun (v19,v20,v21,v22)=>(iteS (!v19) (some (v18,v20,v21,v22)) (dH k9 v18 v20 v21 v22 (aFX c0_5 c0_1 true))))))))
def bS:Nat→bG→Int→Int→Option (Tr×bG×Int×Int)
 | 0,_,_,_=>none
 | k+1,p0,p1,p2=>(iteS (!decide (p2=0)) (some (.nil,p0,p1,p2)) ((aAB k p0 p1).bind fun (v1,v2)=>(iteS v2 ((pI k 4 v1 ([]:List Tr)).bind fun v3=>(some (v3,p0,(IntKind.i64.wrap (p1+1)),p2))) ((bK k p0 p1 p2 ([105,110,116]:List UInt8)).bind fun (v4,v5,v6,v7)=>(iteS v4 ((pI k 1 ([]:List UInt8) ([]:List Tr)).bind fun v8=>(some (v8,v5,v6,v7))) ((bK k v5 v6 v7 ([98,111,111,108]:List UInt8)).bind fun (v9,v10,v11,v12)=>(iteS v9 ((pI k 2 ([]:List UInt8) ([]:List Tr)).bind fun v13=>(some (v13,v10,v11,v12))) ((bK k v10 v11 v12 ([117,110,105,116]:List UInt8)).bind fun (v14,v15,v16,v17)=>(iteS v14 ((pI k 3 ([]:List UInt8) ([]:List Tr)).bind fun v18=>(some (v18,v15,v16,v17))) ((bK k v15 v16 v17 ([40]:List UInt8)).bind fun (v19,v20,v21,v22)=>(iteS v19 ((bP k v20 v21 v22).bind fun (v23,v24,v25,v26)=>((dP k v24 v25 v26 ([41]:List UInt8)).bind fun (v27,v28,v29)=>(some (v23,v27,v28,v29)))) ((bK k v20 v21 v22 ([109,117]:List UInt8)).bind fun (v30,v31,v32,v33)=>(iteS v30 ((fB k v31 v32 v33).bind fun (v34,v35,v36,v37)=>(cF k v34 v35 v36 v37)) ((cQ k v31 v32 v33 6).bind fun (v50,v51,v52)=>(some (.nil,v50,v51,v52))))))))))))))))
def cF:Nat→(List UInt8)→bG→Int→Int→Option (Tr×bG×Int×Int)
 | 0,_,_,_,_=>none
 | k38+1,c0_0,c0_1,c0_2,c0_3=>((dP k38 c0_1 c0_2 c0_3 ([123]:List UInt8)).bind fun (v39,v40,v41)=>((fC k38 v39 v40 v41).bind fun (v42,v43,v44,v45)=>((dP k38 v43 v44 v45 ([125]:List UInt8)).bind fun (v46,v47,v48)=>((pI k38 7 c0_0 v42).bind fun v49=>(some (v49,v46,v47,v48))))))
def bN:Nat→bG→Int→Int→Option (Tr×bG×Int×Int)
 | 0,_,_,_=>none
 | k+1,p0,p1,p2=>((bS k p0 p1 p2).bind fun (v1,v2,v3,v4)=>((kF k v2 v3 v4 v1 ([42]:List UInt8) 6).bind fun (v5,v6,v7,v8)=>(some (v5,v6,v7,v8))))
def bP:Nat→bG→Int→Int→Option (Tr×bG×Int×Int)
 | 0,_,_,_=>none
 | k+1,p0,p1,p2=>((bN k p0 p1 p2).bind fun (v1,v2,v3,v4)=>((iM k v2 v3 v4 v1 ([45,62]:List UInt8) 5).bind fun (v5,v6,v7,v8)=>(some (v5,v6,v7,v8))))
end
def aCo (k:Nat) (p0:bG) (p1:Int):Option (Tr×Int×Int):=((aAS k p0 p1).bind fun (v1,v2,v3)=>((bP k v1 v2 v3).bind fun (v4,_v5,v6,v7)=>(iteS (!decide (v7=0)) (some (.nil,v6,v7)) (some (v4,v6,0)))))
def gY (k:Nat) (p0:bG) (p1:Int) (p2:Int):Option (Tr×bG×Int×Int):=(iteS (!decide (p2=0)) (some (.nil,p0,p1,p2)) ((aCo k p0 p1).bind fun (v1,v2,v3)=>((dM k p0 v2 p2 v3).bind fun (v4,v5,v6)=>(some (v1,v4,v5,v6)))))
def iP (k:Nat) (p0:bG) (p1:Int) (p2:Int):Option (Tr×bG×Int×Int):=((gY k p0 p1 p2).bind fun (v1,v2,v3,v4)=>(some (v1,v2,v3,v4)))
def dA:Nat→(List (List UInt8))→Int→bG→Int→Int→Option (bG×Int×Int)
 | 0,_,_,_,_,_=>none
 | k1+1,w0_0,w0_1,w0_2,w0_3,w0_4=>(iteS (decide (w0_1<((w0_0.length:Nat):Int))) ((aT w0_0 w0_1).bind fun v2=>((aQ k1 w0_2 w0_3 w0_4 v2).bind fun (v3,v4,v5,v6)=>(iteS (!v3) ((dM k1 v4 v5 v6 6).bind fun (v7,v8,v9)=>(dA k1 w0_0 (IntKind.i64.wrap (w0_1+1)) v7 v8 v9)) (dA k1 w0_0 (IntKind.i64.wrap (w0_1+1)) v4 v5 v6)))) (some (w0_2,w0_3,w0_4)))
def bC (k:Nat) (p0:bG) (p1:Int) (p2:Int) (p3:(List (List UInt8))):Option (bG×Int×Int):=(dA k p3 0 p0 p1 p2)
def bF (k:Nat) (p0:bG) (p1:Int) (p2:Int) (p3:(List UInt8)):Option (Bool×bG×Int×Int):=(iteS (!decide (p2=0)) (some (false,p0,p1,p2)) ((kY k p0 p1 p3).bind fun v1=>(iteS (!v1) (some (false,p0,p1,p2)) (some (true,p0,(IntKind.i64.wrap (p1+1)),p2)))))
def eM (_k:Nat) (p0:bG) (p1:Int) (p2:Int) (p3:Int):Option (bG×Int×Int):=(iteS (decide (p2=0)) (some (p0,p1,p3)) (some (p0,p1,p2)))
def cG:Nat→(List (List UInt8))→Int→bG→Int→Int→Option (bG×Int×Int)
 | 0,_,_,_,_,_=>none
 | k1+1,w0_0,w0_1,w0_2,w0_3,w0_4=>(iteS (decide (w0_1<((w0_0.length:Nat):Int))) ((aT w0_0 w0_1).bind fun v2=>((bF k1 w0_2 w0_3 w0_4 v2).bind fun (v3,v4,v5,v6)=>(iteS (!v3) ((eM k1 v4 v5 v6 6).bind fun (v7,v8,v9)=>(cG k1 w0_0 (IntKind.i64.wrap (w0_1+1)) v7 v8 v9)) (cG k1 w0_0 (IntKind.i64.wrap (w0_1+1)) v4 v5 v6)))) (some (w0_2,w0_3,w0_4)))
def aY (k:Nat) (p0:bG) (p1:Int) (p2:Int) (p3:(List (List UInt8))):Option (bG×Int×Int):=(cG k p3 0 p0 p1 p2)
def fE (k:Nat) (p0:bG) (p1:Int) (p2:Int):Option ((List UInt8)×bG×Int×Int):=((vZ k p0 p1).bind fun (v1,v2)=>(iteS (!decide (p2=0)) ((eM k p0 p1 p2 6).bind fun (v3,v4,v5)=>(some (([]:List UInt8),v3,v4,v5))) (iteS (!v2) ((eM k p0 p1 p2 6).bind fun (v6,v7,v8)=>(some (([]:List UInt8),v6,v7,v8))) (some (v1,p0,(IntKind.i64.wrap (p1+1)),p2)))))
def iY (k:Nat) (p0:bG) (p1:Int) (p2:Int):Option (Tr×bG×Int×Int):=(iteS (!decide (p2=0)) (some (.nil,p0,p1,p2)) ((aCo k p0 p1).bind fun (v1,v2,v3)=>((eM k p0 v2 p2 v3).bind fun (v4,v5,v6)=>(some (v1,v4,v5,v6)))))
def kD (_k:Nat) (p0:Int) (p1:(List UInt8)) (p2:(List Tr)):Option (Tr):=(some (.node p0 0 p1 ([]:List UInt8) p2))
def wZ (_k:Nat) (p0:Int) (_p1:(List UInt8)) (p2:Int) (_p3:Int):Option (Bool):=(iteS (decide (p0=2)) (iteS (decide ((-1073741824)≤p2)) (some (decide (p2≤1073741824))) (some false)) (some false))
def gQ (k:Nat) (p0:bG) (p1:Int) (p2:Int):Option (Bool×bG×Int×Int):=(iteS (!decide (p2=0)) (some (false,p0,p1,p2)) (iteS (decide (((p0.length:Nat):Int)≤p1)) (some (false,p0,p1,p2)) ((kY k p0 p1 ([116,114,117,101]:List UInt8)).bind fun v1=>(iteS v1 (some (true,p0,p1,p2)) ((kY k p0 p1 ([102,97,108,115,101]:List UInt8)).bind fun v2=>(iteS v2 (some (true,p0,p1,p2)) ((kY k p0 p1 ([40]:List UInt8)).bind fun v3=>(iteS v3 (some (true,p0,p1,p2)) ((kY k p0 p1 ([35,49]:List UInt8)).bind fun v4=>(iteS v4 (some (true,p0,p1,p2)) ((kY k p0 p1 ([35,50]:List UInt8)).bind fun v5=>(iteS v5 (some (true,p0,p1,p2)) ((aAB k p0 p1).bind fun (_v6,v7)=>(iteS v7 (some (true,p0,p1,p2)) ((aT p0 p1).bind fun v8=>((wZ k v8.1 v8.2.1 v8.2.2.1 v8.2.2.2).bind fun v9=>(some (v9,p0,p1,p2))))))))))))))))))
def aBO (_k:Nat) (p0:Int) (p1:Tr) (p2:Tr):Option (Tr):=(some (.node 31 p0 ([]:List UInt8) ([]:List UInt8) ([p1,p2]:List Tr)))
mutual
def cC:Nat→bG→Int→Int→Option (Tr×bG×Int×Int)
 | 0,_,_,_=>none
 | k+1,p0,p1,p2=>((gQ k p0 p1 p2).bind fun (v1,v2,v3,v4)=>(iteS (!v1) ((eM k v2 v3 v4 6).bind fun (v5,v6,v7)=>(some (.nil,v5,v6,v7))) ((aT v2 v3).bind fun v8=>(iteS (decide (v8.1=2)) (some ((.node 20 v8.2.2.1 ([]:List UInt8) ([]:List UInt8) ([]:List Tr)),v2,(IntKind.i64.wrap (v3+1)),v4)) (iteS (decide (v8.1=1)) ((kD k 23 v8.2.1 ([]:List Tr)).bind fun v9=>(some (v9,v2,(IntKind.i64.wrap (v3+1)),v4))) (iteS (decide (v8.2.1=([116,114,117,101]:List UInt8))) (some ((.node 21 1 ([]:List UInt8) ([]:List UInt8) ([]:List Tr)),v2,(IntKind.i64.wrap (v3+1)),v4)) (iteS (decide (v8.2.1=([102,97,108,115,101]:List UInt8))) ((kD k 21 ([]:List UInt8) ([]:List Tr)).bind fun v10=>(some (v10,v2,(IntKind.i64.wrap (v3+1)),v4))) (iteS (decide (v8.2.1=([35,49]:List UInt8))) ((cC k v2 (IntKind.i64.wrap (v3+1)) v4).bind fun (v11,v12,v13,v14)=>((kD k 27 ([]:List UInt8) ([v11]:List Tr)).bind fun v15=>(some (v15,v12,v13,v14)))) (iteS (decide (v8.2.1=([35,50]:List UInt8))) ((cC k v2 (IntKind.i64.wrap (v3+1)) v4).bind fun (v16,v17,v18,v19)=>((kD k 28 ([]:List UInt8) ([v16]:List Tr)).bind fun v20=>(some (v20,v17,v18,v19)))) (mO k v2 (IntKind.i64.wrap (v3+1)) v4))))))))))
def mO:Nat→bG→Int→Int→Option (Tr×bG×Int×Int)
 | 0,_,_,_=>none
 | k21+1,c0_0,c0_1,c0_2=>((bF k21 c0_0 c0_1 c0_2 ([41]:List UInt8)).bind fun (v22,v23,v24,v25)=>(iteS v22 ((kD k21 22 ([]:List UInt8) ([]:List Tr)).bind fun v26=>(some (v26,v23,v24,v25))) ((aW k21 v23 v24 v25).bind fun (v27,v28,v29,v30)=>((bF k21 v28 v29 v30 ([44]:List UInt8)).bind fun (v31,v32,v33,v34)=>(iteS v31 ((aW k21 v32 v33 v34).bind fun (v35,v36,v37,v38)=>((kD k21 26 ([]:List UInt8) ([v27,v35]:List Tr)).bind fun v39=>((aY k21 v36 v37 v38 ([([41]:List UInt8)]:List (List UInt8))).bind fun (v40,v41,v42)=>(some (v39,v40,v41,v42))))) ((aY k21 v32 v33 v34 ([([41]:List UInt8)]:List (List UInt8))).bind fun (v43,v44,v45)=>(some (v27,v43,v44,v45))))))))
def dZ:Nat→bG→Int→Int→Option (Tr×bG×Int×Int)
 | 0,_,_,_=>none
 | k+1,p0,p1,p2=>((cC k p0 p1 p2).bind fun (v1,v2,v3,v4)=>(cZ k v1 v2 v3 v4))
def cZ:Nat→Tr→bG→Int→Int→Option (Tr×bG×Int×Int)
 | 0,_,_,_,_=>none
 | k5+1,w0_0,w0_1,w0_2,w0_3=>((gQ k5 w0_1 w0_2 w0_3).bind fun (v6,v7,v8,v9)=>(iteS v6 ((cC k5 v7 v8 v9).bind fun (v10,v11,v12,v13)=>((kD k5 25 ([]:List UInt8) ([w0_0,v10]:List Tr)).bind fun v14=>(cZ k5 v14 v11 v12 v13))) (some (w0_0,v7,v8,v9))))
def iK:Nat→bG→Int→Int→(List UInt8)→(List Int)→Option (Tr×bG×Int×Int)
 | 0,_,_,_,_,_=>none
 | k+1,p0,p1,p2,p3,p4=>((dZ k p0 p1 p2).bind fun (v1,v2,v3,v4)=>(bB k p3 p4 v1 v2 v3 v4))
def bB:Nat→(List UInt8)→(List Int)→Tr→bG→Int→Int→Option (Tr×bG×Int×Int)
 | 0,_,_,_,_,_,_=>none
 | k5+1,w0_0,w0_1,w0_2,w0_3,w0_4,w0_5=>(dR k5 w0_0 w0_1 w0_2 0 w0_3 w0_4 w0_5)
def dR:Nat→(List UInt8)→(List Int)→Tr→Int→bG→Int→Int→Option (Tr×bG×Int×Int)
 | 0,_,_,_,_,_,_,_=>none
 | k6+1,w1_0,w1_1,w1_2,w1_3,w1_4,w1_5,w1_6=>(iteS (decide (w1_3<((w1_1.length:Nat):Int))) ((jD w1_0 w1_3 (IntKind.i64.wrap (w1_3+1))).bind fun v7=>((bF k6 w1_4 w1_5 w1_6 v7).bind fun (v8,v9,v10,v11)=>(iteS (!v8) (dR k6 w1_0 w1_1 w1_2 (IntKind.i64.wrap (w1_3+1)) v9 v10 v11) (iteS (decide (w1_3=((w1_1.length:Nat):Int))) (some (w1_2,v9,v10,v11)) ((aT w1_1 w1_3).bind fun v12=>((dZ k6 v9 v10 v11).bind fun (v13,v14,v15,v16)=>((aBO k6 v12 w1_2 v13).bind fun v17=>(bB k6 w1_0 w1_1 v17 v14 v15 v16)))))))) (iteS (decide (w1_3=((w1_1.length:Nat):Int))) (some (w1_2,w1_4,w1_5,w1_6)) ((aT w1_1 w1_3).bind fun v18=>((dZ k6 w1_4 w1_5 w1_6).bind fun (v19,v20,v21,v22)=>((aBO k6 v18 w1_2 v19).bind fun v23=>(bB k6 w1_0 w1_1 v23 v20 v21 v22))))))
def dO:Nat→bG→Int→Int→Option (Tr×bG×Int×Int)
 | 0,_,_,_=>none
 | k+1,p0,p1,p2=>((iK k p0 p1 p2 ([42]:List UInt8) ([3]:List Int)).bind fun (v1,v2,v3,v4)=>(some (v1,v2,v3,v4)))
def kE:Nat→bG→Int→Int→(List UInt8)→(List Int)→Option (Tr×bG×Int×Int)
 | 0,_,_,_,_,_=>none
 | k+1,p0,p1,p2,p3,p4=>((dO k p0 p1 p2).bind fun (v1,v2,v3,v4)=>(bH k p3 p4 v1 v2 v3 v4))
def bH:Nat→(List UInt8)→(List Int)→Tr→bG→Int→Int→Option (Tr×bG×Int×Int)
 | 0,_,_,_,_,_,_=>none
 | k5+1,w0_0,w0_1,w0_2,w0_3,w0_4,w0_5=>(cM k5 w0_0 w0_1 w0_2 0 w0_3 w0_4 w0_5)
def cM:Nat→(List UInt8)→(List Int)→Tr→Int→bG→Int→Int→Option (Tr×bG×Int×Int)
 | 0,_,_,_,_,_,_,_=>none
 | k6+1,w1_0,w1_1,w1_2,w1_3,w1_4,w1_5,w1_6=>(iteS (decide (w1_3<((w1_1.length:Nat):Int))) ((jD w1_0 w1_3 (IntKind.i64.wrap (w1_3+1))).bind fun v7=>((bF k6 w1_4 w1_5 w1_6 v7).bind fun (v8,v9,v10,v11)=>(iteS (!v8) (cM k6 w1_0 w1_1 w1_2 (IntKind.i64.wrap (w1_3+1)) v9 v10 v11) (iteS (decide (w1_3=((w1_1.length:Nat):Int))) (some (w1_2,v9,v10,v11)) ((aT w1_1 w1_3).bind fun v12=>((dO k6 v9 v10 v11).bind fun (v13,v14,v15,v16)=>((aBO k6 v12 w1_2 v13).bind fun v17=>(bH k6 w1_0 w1_1 v17 v14 v15 v16)))))))) (iteS (decide (w1_3=((w1_1.length:Nat):Int))) (some (w1_2,w1_4,w1_5,w1_6)) ((aT w1_1 w1_3).bind fun v18=>((dO k6 w1_4 w1_5 w1_6).bind fun (v19,v20,v21,v22)=>((aBO k6 v18 w1_2 v19).bind fun v23=>(bH k6 w1_0 w1_1 v23 v20 v21 v22))))))
def eK:Nat→bG→Int→Int→Option (Tr×bG×Int×Int)
 | 0,_,_,_=>none
 | k+1,p0,p1,p2=>((kE k p0 p1 p2 ([43,45]:List UInt8) ([1,2]:List Int)).bind fun (v1,v2,v3,v4)=>(some (v1,v2,v3,v4)))
def gI:Nat→bG→Int→Int→Option (Tr×bG×Int×Int)
 | 0,_,_,_=>none
 | k+1,p0,p1,p2=>((eK k p0 p1 p2).bind fun (v1,v2,v3,v4)=>((bF k v2 v3 v4 ([61]:List UInt8)).bind fun (v5,v6,v7,v8)=>(iteS v5 ((eK k v6 v7 v8).bind fun (v9,v10,v11,v12)=>((aBO k 4 v1 v9).bind fun v13=>(some (v13,v10,v11,v12)))) ((bF k v6 v7 v8 ([60]:List UInt8)).bind fun (v14,v15,v16,v17)=>(iteS v14 ((eK k v15 v16 v17).bind fun (v18,v19,v20,v21)=>((aBO k 5 v1 v18).bind fun v22=>(some (v22,v19,v20,v21)))) (some (v1,v15,v16,v17)))))))
def hQ:Nat→bG→Int→Int→Option ((List Tr)×bG×Int×Int)
 | 0,_,_,_=>none
 | k+1,p0,p1,p2=>(dX k ([]:List Tr) p0 p1 p2)
def dX:Nat→(List Tr)→bG→Int→Int→Option ((List Tr)×bG×Int×Int)
 | 0,_,_,_,_=>none
 | k1+1,w0_0,w0_1,w0_2,w0_3=>(iteS (decide (w0_3=0)) ((fE k1 w0_1 w0_2 w0_3).bind fun (v2,v3,v4,v5)=>((fE k1 v3 v4 v5).bind fun (v6,v7,v8,v9)=>((aY k1 v7 v8 v9 ([([61,62]:List UInt8)]:List (List UInt8))).bind fun (v10,v11,v12)=>((aW k1 v10 v11 v12).bind fun (v13,v14,v15,v16)=>((aAs 8 w0_0 ([(.node 34 0 v2 v6 ([v13]:List Tr))]:List Tr)).bind fun v17=>((bF k1 v14 v15 v16 ([124]:List UInt8)).bind fun (v18,v19,v20,v21)=>(iteS (!v18) ((aY k1 v19 v20 v21 ([([101,110,100]:List UInt8)]:List (List UInt8))).bind fun (v22,v23,v24)=>(some (v17,v22,v23,v24))) (dX k1 v17 v19 v20 v21)))))))) ((aY k1 w0_1 w0_2 w0_3 ([([101,110,100]:List UInt8)]:List (List UInt8))).bind fun (v25,v26,v27)=>(some (w0_0,v25,v26,v27))))
def aW:Nat→bG→Int→Int→Option (Tr×bG×Int×Int)
 | 0,_,_,_=>none
 | k+1,p0,p1,p2=>((bF k p0 p1 p2 ([102,110]:List UInt8)).bind fun (v1,v2,v3,v4)=>(iteS v1 ((aY k v2 v3 v4 ([([40]:List UInt8)]:List (List UInt8))).bind fun (v5,v6,v7)=>((fE k v5 v6 v7).bind fun (v8,v9,v10,v11)=>((aY k v9 v10 v11 ([([58]:List UInt8)]:List (List UInt8))).bind fun (v12,v13,v14)=>((iY k v12 v13 v14).bind fun (v15,v16,v17,v18)=>((aY k v16 v17 v18 ([([41]:List UInt8),([61,62]:List UInt8)]:List (List UInt8))).bind fun (v19,v20,v21)=>((aW k v19 v20 v21).bind fun (v22,v23,v24,v25)=>((kD k 24 v8 ([v15,v22]:List Tr)).bind fun v26=>(some (v26,v23,v24,v25))))))))) ((bF k v2 v3 v4 ([108,101,116]:List UInt8)).bind fun (v27,v28,v29,v30)=>(iteS v27 ((fE k v28 v29 v30).bind fun (v31,v32,v33,v34)=>((aY k v32 v33 v34 ([([61]:List UInt8)]:List (List UInt8))).bind fun (v35,v36,v37)=>((aW k v35 v36 v37).bind fun (v38,v39,v40,v41)=>((aY k v39 v40 v41 ([([105,110]:List UInt8)]:List (List UInt8))).bind fun (v42,v43,v44)=>((aW k v42 v43 v44).bind fun (v45,v46,v47,v48)=>((aY k v46 v47 v48 ([([101,110,100]:List UInt8)]:List (List UInt8))).bind fun (v49,v50,v51)=>((kD k 29 v31 ([v38,v45]:List Tr)).bind fun v52=>(some (v52,v49,v50,v51))))))))) ((bF k v28 v29 v30 ([105,102]:List UInt8)).bind fun (v53,v54,v55,v56)=>(iteS v53 ((aW k v54 v55 v56).bind fun (v57,v58,v59,v60)=>((aY k v58 v59 v60 ([([116,104,101,110]:List UInt8)]:List (List UInt8))).bind fun (v61,v62,v63)=>((aW k v61 v62 v63).bind fun (v64,v65,v66,v67)=>((aY k v65 v66 v67 ([([101,108,115,101]:List UInt8)]:List (List UInt8))).bind fun (v68,v69,v70)=>((aW k v68 v69 v70).bind fun (v71,v72,v73,v74)=>((kD k 30 ([]:List UInt8) ([v57,v64,v71]:List Tr)).bind fun v75=>(some (v75,v72,v73,v74)))))))) ((bF k v54 v55 v56 ([99,97,115,101]:List UInt8)).bind fun (v76,v77,v78,v79)=>(iteS v76 ((aW k v77 v78 v79).bind fun (v80,v81,v82,v83)=>((aY k v81 v82 v83 ([([111,102]:List UInt8)]:List (List UInt8))).bind fun (v84,v85,v86)=>((hQ k v84 v85 v86).bind fun (v87,v88,v89,v90)=>((aAs 8 ([v80]:List Tr) v87).bind fun v91=>((kD k 32 ([]:List UInt8) v91).bind fun v92=>(some (v92,v88,v89,v90))))))) ((bF k v77 v78 v79 ([102,111,108,100]:List UInt8)).bind fun (v93,v94,v95,v96)=>(iteS v93 ((aW k v94 v95 v96).bind fun (v97,v98,v99,v100)=>((aY k v98 v99 v100 ([([116,111]:List UInt8)]:List (List UInt8))).bind fun (v101,v102,v103)=>((iY k v101 v102 v103).bind fun (v104,v105,v106,v107)=>((aY k v105 v106 v107 ([([111,102]:List UInt8)]:List (List UInt8))).bind fun (v108,v109,v110)=>((hQ k v108 v109 v110).bind fun (v111,v112,v113,v114)=>((aAs 8 ([v97,v104]:List Tr) v111).bind fun v115=>((kD k 33 ([]:List UInt8) v115).bind fun v116=>(some (v116,v112,v113,v114))))))))) ((gI k v94 v95 v96).bind fun (v117,v118,v119,v120)=>(some (v117,v118,v119,v120)))))))))))))
end
def aE6 (k:Nat) (p0:bG) (p1:Int):Option (Tr×Int×Int):=(iteS (decide (p1<0)) (some (.nil,0,2)) (iteS (decide (((p0.length:Nat):Int)<p1)) (some (.nil,0,2)) ((aW k p0 p1 0).bind fun (v1,_v2,v3,v4)=>(iteS (!decide (v4=0)) (some (.nil,v3,v4)) (some (v1,v3,0))))))
def gV (k:Nat) (p0:bG) (p1:Int) (p2:Int):Option (Tr×bG×Int×Int):=(iteS (!decide (p2=0)) (some (.nil,p0,p1,p2)) ((aE6 k p0 p1).bind fun (v1,v2,v3)=>((dM k p0 v2 p2 v3).bind fun (v4,v5,v6)=>(some (v1,v4,v5,v6)))))
def lZ (k:Nat) (p0:bG) (p1:Int) (p2:Int):Option (Tr×bG×Int×Int):=((gV k p0 p1 p2).bind fun (v1,v2,v3,v4)=>(some (v1,v2,v3,v4)))
def eY (k:Nat) (p0:bG) (p1:Int) (p2:Int) (p3:(List UInt8)):Option (Tr×bG×Int×Int):=((bC k p0 p1 p2 ([p3]:List (List UInt8))).bind fun (v1,v2,v3)=>((lZ k v1 v2 v3).bind fun (v4,v5,v6,v7)=>(some (v4,v5,v6,v7))))
def eO (k:Nat) (p0:bG) (p1:Int) (p2:Int) (p3:(List UInt8)):Option (Tr×bG×Int×Int):=((bC k p0 p1 p2 ([p3]:List (List UInt8))).bind fun (v1,v2,v3)=>((iP k v1 v2 v3).bind fun (v4,v5,v6,v7)=>(some (v4,v5,v6,v7))))
def gG (_k:Nat) (p0:Int) (p1:(List UInt8)) (p2:(List Tr)):Option (Tr):=(some (.node p0 0 p1 ([]:List UInt8) p2))
def aEU (k:Nat) (p0:bG) (p1:Int):Option ((List Tr)×Int×Int):=((aAS k p0 p1).bind fun (v1,v2,v3)=>((fC k v1 v2 v3).bind fun (v4,_v5,v6,v7)=>(iteS (!decide (v7=0)) (some (([]:List Tr),v6,v7)) (some (v4,v6,0)))))
def kG (k:Nat) (p0:bG) (p1:Int) (p2:Int):Option ((List Tr)×bG×Int×Int):=(iteS (!decide (p2=0)) (some (([]:List Tr),p0,p1,p2)) ((aEU k p0 p1).bind fun (v1,v2,v3)=>((dM k p0 v2 p2 v3).bind fun (v4,v5,v6)=>(some (v1,v4,v5,v6)))))
def hP (k:Nat) (p0:bG) (p1:Int) (p2:Int):Option ((List UInt8)×bG×Int×Int):=((aAB k p0 p1).bind fun (v1,v2)=>(iteS (!decide (p2=0)) ((dM k p0 p1 p2 6).bind fun (v3,v4,v5)=>(some (([]:List UInt8),v3,v4,v5))) (iteS (!v2) ((dM k p0 p1 p2 6).bind fun (v6,v7,v8)=>(some (([]:List UInt8),v6,v7,v8))) (some (v1,p0,(IntKind.i64.wrap (p1+1)),p2)))))
def cY (k:Nat) (p0:bG) (p1:Int) (p2:Int):Option ((List UInt8)×bG×Int×Int):=((hP k p0 p1 p2).bind fun (v1,v2,v3,v4)=>(some (v1,v2,v3,v4)))
mutual
def dD:Nat→bG→Int→Int→(List UInt8)→Option (Tr×bG×Int×Int)
 | 0,_,_,_,_=>none
 | k+1,p0,p1,p2,p3=>((bC k p0 p1 p2 ([p3]:List (List UInt8))).bind fun (v1,v2,v3)=>((dB k v1 v2 v3).bind fun (v4,v5,v6,v7)=>(some (v4,v5,v6,v7))))
def eL:Nat→bG→Int→Int→Option (Tr×bG×Int×Int)
 | 0,_,_,_=>none
 | k+1,p0,p1,p2=>((aQ k p0 p1 p2 ([118,97,108]:List UInt8)).bind fun (v1,v2,v3,v4)=>(iteS v1 ((bO k v2 v3 v4).bind fun (v5,v6,v7,v8)=>((eO k v6 v7 v8 ([58]:List UInt8)).bind fun (v9,v10,v11,v12)=>((gG k 60 v5 ([v9]:List Tr)).bind fun v13=>(some (v13,v10,v11,v12))))) ((aQ k v2 v3 v4 ([116,121,112,101]:List UInt8)).bind fun (v14,v15,v16,v17)=>(iteS v14 ((bO k v15 v16 v17).bind fun (v18,v19,v20,v21)=>((aQ k v19 v20 v21 ([61]:List UInt8)).bind fun (v22,v23,v24,v25)=>(iteS (!v22) ((gG k 61 v18 ([]:List Tr)).bind fun v26=>(some (v26,v23,v24,v25))) ((iP k v23 v24 v25).bind fun (v27,v28,v29,v30)=>((gG k 61 v18 ([v27]:List Tr)).bind fun v31=>(some (v31,v28,v29,v30))))))) ((aQ k v15 v16 v17 ([100,97,116,97,116,121,112,101]:List UInt8)).bind fun (v32,v33,v34,v35)=>(iteS v32 ((bO k v33 v34 v35).bind fun (v36,v37,v38,v39)=>((bC k v37 v38 v39 ([([61]:List UInt8)]:List (List UInt8))).bind fun (v40,v41,v42)=>((kG k v40 v41 v42).bind fun (v43,v44,v45,v46)=>((gG k 62 v36 v43).bind fun v47=>(some (v47,v44,v45,v46)))))) ((aQ k v33 v34 v35 ([115,116,114,117,99,116,117,114,101]:List UInt8)).bind fun (v48,v49,v50,v51)=>(iteS v48 ((bO k v49 v50 v51).bind fun (v52,v53,v54,v55)=>((dD k v53 v54 v55 ([58]:List UInt8)).bind fun (v56,v57,v58,v59)=>((gG k 63 v52 ([v56]:List Tr)).bind fun v60=>(some (v60,v57,v58,v59))))) ((aQ k v49 v50 v51 ([105,110,99,108,117,100,101]:List UInt8)).bind fun (v61,v62,v63,v64)=>(iteS v61 ((dB k v62 v63 v64).bind fun (v65,v66,v67,v68)=>((gG k 64 ([]:List UInt8) ([v65]:List Tr)).bind fun v69=>(some (v69,v66,v67,v68)))) ((aQ k v62 v63 v64 ([115,104,97,114,105,110,103]:List UInt8)).bind fun (v70,v71,v72,v73)=>(iteS v70 ((bC k v71 v72 v73 ([([116,121,112,101]:List UInt8)]:List (List UInt8))).bind fun (v74,v75,v76)=>((cY k v74 v75 v76).bind fun (v77,v78,v79,v80)=>((bC k v78 v79 v80 ([([61]:List UInt8)]:List (List UInt8))).bind fun (v81,v82,v83)=>((cY k v81 v82 v83).bind fun (v84,v85,v86,v87)=>(some ((.node 65 0 v77 v84 ([]:List Tr)),v85,v86,v87)))))) (some (.nil,v71,v72,v73))))))))))))))
def gC:Nat→bG→Int→Int→Option (Tr×bG×Int×Int)
 | 0,_,_,_=>none
 | k+1,p0,p1,p2=>((aQ k p0 p1 p2 ([115,105,103]:List UInt8)).bind fun (v1,v2,v3,v4)=>(iteS (!v1) ((bO k v2 v3 v4).bind fun (v5,v6,v7,v8)=>((qW k 51 v5).bind fun (v9,v10,v11,v12)=>(some ((.node v9 v10 v11 v12 ([]:List Tr)),v6,v7,v8)))) ((qW k 50 ([]:List UInt8)).bind fun (v13,v14,v15,v16)=>((eL k v2 v3 v4).bind fun (v17,v18,v19,v20)=>(bT k v17 v18 v19 v20 v13 v14 v15 v16 ([]:List Tr))))))
def bT:Nat→Tr→bG→Int→Int→Int→Int→(List UInt8)→(List UInt8)→(List Tr)→Option (Tr×bG×Int×Int)
 | 0,_,_,_,_,_,_,_,_,_=>none
 | k21+1,w0_0,w0_1,w0_2,w0_3,w0_4,w0_5,w0_6,w0_7,w0_8=>(match w0_0 with | .nil=>((bC k21 w0_1 w0_2 w0_3 ([([101,110,100]:List UInt8)]:List (List UInt8))).bind fun (v27,v28,v29)=>(some ((.node w0_4 w0_5 w0_6 w0_7 w0_8),v27,v28,v29))) | .node n22 n23 n24 n25 n26=>((aAs 8 w0_8 ([(.node n22 n23 n24 n25 n26)]:List Tr)).bind fun v30=>((eL k21 w0_1 w0_2 w0_3).bind fun (v31,v32,v33,v34)=>(bT k21 v31 v32 v33 v34 w0_4 w0_5 w0_6 w0_7 v30))))
def dB:Nat→bG→Int→Int→Option (Tr×bG×Int×Int)
 | 0,_,_,_=>none
 | k+1,p0,p1,p2=>((gC k p0 p1 p2).bind fun (v1,v2,v3,v4)=>(dS k v1 v2 v3 v4))
def dS:Nat→Tr→bG→Int→Int→Option (Tr×bG×Int×Int)
 | 0,_,_,_,_=>none
 | k5+1,w0_0,w0_1,w0_2,w0_3=>((aQ k5 w0_1 w0_2 w0_3 ([119,104,101,114,101]:List UInt8)).bind fun (v6,v7,v8,v9)=>(iteS v6 ((bC k5 v7 v8 v9 ([([116,121,112,101]:List UInt8)]:List (List UInt8))).bind fun (v10,v11,v12)=>((cY k5 v10 v11 v12).bind fun (v13,v14,v15,v16)=>((bC k5 v14 v15 v16 ([([61]:List UInt8)]:List (List UInt8))).bind fun (v17,v18,v19)=>((iP k5 v17 v18 v19).bind fun (v20,v21,v22,v23)=>((gG k5 52 v13 ([w0_0,v20]:List Tr)).bind fun v24=>(dS k5 v24 v21 v22 v23)))))) (some (w0_0,v7,v8,v9))))
end
mutual
def gA:Nat→bG→Int→Int→Option (Tr×bG×Int×Int)
 | 0,_,_,_=>none
 | k+1,p0,p1,p2=>((aQ k p0 p1 p2 ([115,116,114,117,99,116]:List UInt8)).bind fun (v1,v2,v3,v4)=>(iteS v1 ((kP k v2 v3 v4 false).bind fun (v5,v6,v7,v8)=>((bC k v6 v7 v8 ([([101,110,100]:List UInt8)]:List (List UInt8))).bind fun (v9,v10,v11)=>((gG k 40 ([]:List UInt8) v5).bind fun v12=>(some (v12,v9,v10,v11))))) ((aQ k v2 v3 v4 ([40]:List UInt8)).bind fun (v13,v14,v15,v16)=>(iteS v13 ((eA k v14 v15 v16).bind fun (v17,v18,v19,v20)=>((bC k v18 v19 v20 ([([41]:List UInt8)]:List (List UInt8))).bind fun (v21,v22,v23)=>(some (v17,v21,v22,v23)))) ((vZ k v14 v15).bind fun (v24,v25)=>(iteS v25 ((kY k v14 (IntKind.i64.wrap (v15+1)) ([40]:List UInt8)).bind fun v26=>(iteS v26 (iteS (decide (v16=0)) (nX k v24 v14 (IntKind.i64.wrap (v15+2)) v16) ((cY k v14 v15 v16).bind fun (v36,v37,v38,v39)=>((gG k 41 v36 ([]:List Tr)).bind fun v40=>(some (v40,v37,v38,v39))))) ((cY k v14 v15 v16).bind fun (v41,v42,v43,v44)=>((gG k 41 v41 ([]:List Tr)).bind fun v45=>(some (v45,v42,v43,v44)))))) ((cY k v14 v15 v16).bind fun (v46,v47,v48,v49)=>((gG k 41 v46 ([]:List Tr)).bind fun v50=>(some (v50,v47,v48,v49))))))))))
def nX:Nat→(List UInt8)→bG→Int→Int→Option (Tr×bG×Int×Int)
 | 0,_,_,_,_=>none
 | k27+1,c0_0,c0_1,c0_2,c0_3=>((eA k27 c0_1 c0_2 c0_3).bind fun (v28,v29,v30,v31)=>((bC k27 v29 v30 v31 ([([41]:List UInt8)]:List (List UInt8))).bind fun (v32,v33,v34)=>((gG k27 42 c0_0 ([v28]:List Tr)).bind fun v35=>(some (v35,v32,v33,v34)))))
def eA:Nat→bG→Int→Int→Option (Tr×bG×Int×Int)
 | 0,_,_,_=>none
 | k+1,p0,p1,p2=>((gA k p0 p1 p2).bind fun (v1,v2,v3,v4)=>(cX k v1 v2 v3 v4))
def cX:Nat→Tr→bG→Int→Int→Option (Tr×bG×Int×Int)
 | 0,_,_,_,_=>none
 | k5+1,w0_0,w0_1,w0_2,w0_3=>((aQ k5 w0_1 w0_2 w0_3 ([58]:List UInt8)).bind fun (v6,v7,v8,v9)=>(iteS v6 ((dB k5 v7 v8 v9).bind fun (v10,v11,v12,v13)=>(cX k5 (.node 43 0 ([]:List UInt8) ([]:List UInt8) ([w0_0,v10]:List Tr)) v11 v12 v13)) ((aQ k5 v7 v8 v9 ([58,62]:List UInt8)).bind fun (v14,v15,v16,v17)=>(iteS v14 ((dB k5 v15 v16 v17).bind fun (v18,v19,v20,v21)=>(cX k5 (.node 43 1 ([]:List UInt8) ([]:List UInt8) ([w0_0,v18]:List Tr)) v19 v20 v21)) (some (w0_0,v15,v16,v17))))))
def dV:Nat→bG→Int→Int→(List UInt8)→Option (Tr×bG×Int×Int)
 | 0,_,_,_,_=>none
 | k+1,p0,p1,p2,p3=>((bC k p0 p1 p2 ([p3]:List (List UInt8))).bind fun (v1,v2,v3)=>((eA k v1 v2 v3).bind fun (v4,v5,v6,v7)=>(some (v4,v5,v6,v7))))
def dY:Nat→bG→Int→Int→Bool→Option (Tr×bG×Int×Int)
 | 0,_,_,_,_=>none
 | k+1,p0,p1,p2,p3=>((aQ k p0 p1 p2 ([118,97,108]:List UInt8)).bind fun (v1,v2,v3,v4)=>(iteS v1 ((bO k v2 v3 v4).bind fun (v5,v6,v7,v8)=>((qW k 70 v5).bind fun (v9,v10,v11,v12)=>((aQ k v6 v7 v8 ([58]:List UInt8)).bind fun (v13,v14,v15,v16)=>(iteS v13 ((iP k v14 v15 v16).bind fun (v17,v18,v19,v20)=>((aAs 8 ([]:List Tr) ([v17]:List Tr)).bind fun v21=>(cE k v18 v19 v20 v9 v10 v11 v12 v21))) (cE k v14 v15 v16 v9 v10 v11 v12 ([]:List Tr)))))) ((aQ k v2 v3 v4 ([116,121,112,101]:List UInt8)).bind fun (v28,v29,v30,v31)=>(iteS v28 ((bO k v29 v30 v31).bind fun (v32,v33,v34,v35)=>((eO k v33 v34 v35 ([61]:List UInt8)).bind fun (v36,v37,v38,v39)=>((gG k 71 v32 ([v36]:List Tr)).bind fun v40=>(some (v40,v37,v38,v39))))) ((aQ k v29 v30 v31 ([100,97,116,97,116,121,112,101]:List UInt8)).bind fun (v41,v42,v43,v44)=>(iteS v41 ((bO k v42 v43 v44).bind fun (v45,v46,v47,v48)=>((bC k v46 v47 v48 ([([61]:List UInt8)]:List (List UInt8))).bind fun (v49,v50,v51)=>((kG k v49 v50 v51).bind fun (v52,v53,v54,v55)=>((gG k 72 v45 v52).bind fun v56=>(some (v56,v53,v54,v55)))))) ((aQ k v42 v43 v44 ([115,116,114,117,99,116,117,114,101]:List UInt8)).bind fun (v57,v58,v59,v60)=>(iteS v57 ((bO k v58 v59 v60).bind fun (v61,v62,v63,v64)=>((dV k v62 v63 v64 ([61]:List UInt8)).bind fun (v65,v66,v67,v68)=>((gG k 73 v61 ([v65]:List Tr)).bind fun v69=>(some (v69,v66,v67,v68))))) ((aQ k v58 v59 v60 ([111,112,101,110]:List UInt8)).bind fun (v70,v71,v72,v73)=>(iteS v70 ((cY k v71 v72 v73).bind fun (v74,v75,v76,v77)=>((qW k 76 v74).bind fun (v78,v79,v80,v81)=>(some ((.node v78 v79 v80 v81 ([]:List Tr)),v75,v76,v77)))) ((aQ k v71 v72 v73 ([105,110,99,108,117,100,101]:List UInt8)).bind fun (v82,v83,v84,v85)=>(iteS v82 ((cY k v83 v84 v85).bind fun (v86,v87,v88,v89)=>((qW k 77 v86).bind fun (v90,v91,v92,v93)=>(some ((.node v90 v91 v92 v93 ([]:List Tr)),v87,v88,v89)))) (iteS p3 ((aQ k v83 v84 v85 ([115,105,103,110,97,116,117,114,101]:List UInt8)).bind fun (v94,v95,v96,v97)=>(iteS v94 ((bO k v95 v96 v97).bind fun (v98,v99,v100,v101)=>((dD k v99 v100 v101 ([61]:List UInt8)).bind fun (v102,v103,v104,v105)=>((gG k 74 v98 ([v102]:List Tr)).bind fun v106=>(some (v106,v103,v104,v105))))) ((aQ k v95 v96 v97 ([102,117,110,99,116,111,114]:List UInt8)).bind fun (v107,v108,v109,v110)=>(iteS v107 ((bO k v108 v109 v110).bind fun (v111,v112,v113,v114)=>((qW k 75 v111).bind fun (v115,v116,v117,v118)=>(gJ k v112 v113 v114 v115 v116 v117 v118))) (some (.nil,v108,v109,v110)))))) (some (.nil,v83,v84,v85)))))))))))))))
def cE:Nat→bG→Int→Int→Int→Int→(List UInt8)→(List UInt8)→(List Tr)→Option (Tr×bG×Int×Int)
 | 0,_,_,_,_,_,_,_,_=>none
 | k22+1,c0_0,c0_1,c0_2,c0_3,c0_4,c0_5,c0_6,c0_7=>((eY k22 c0_0 c0_1 c0_2 ([61]:List UInt8)).bind fun (v23,v24,v25,v26)=>((aAs 8 c0_7 ([v23]:List Tr)).bind fun v27=>(some ((.node c0_3 c0_4 c0_5 c0_6 v27),v24,v25,v26))))
def gJ:Nat→bG→Int→Int→Int→Int→(List UInt8)→(List UInt8)→Option (Tr×bG×Int×Int)
 | 0,_,_,_,_,_,_,_=>none
 | k119+1,c1_0,c1_1,c1_2,c1_3,c1_4,c1_5,_c1_6=>((bC k119 c1_0 c1_1 c1_2 ([([40]:List UInt8)]:List (List UInt8))).bind fun (v120,v121,v122)=>((bO k119 v120 v121 v122).bind fun (v123,v124,v125,v126)=>((dD k119 v124 v125 v126 ([58]:List UInt8)).bind fun (v127,v128,v129,v130)=>((bC k119 v128 v129 v130 ([([41]:List UInt8)]:List (List UInt8))).bind fun (v131,v132,v133)=>((dV k119 v131 v132 v133 ([61]:List UInt8)).bind fun (v134,v135,v136,v137)=>(some ((.node c1_3 c1_4 c1_5 v123 ([v127,v134]:List Tr)),v135,v136,v137)))))))
def kP:Nat→bG→Int→Int→Bool→Option ((List Tr)×bG×Int×Int)
 | 0,_,_,_,_=>none
 | k+1,p0,p1,p2,p3=>((dY k p0 p1 p2 p3).bind fun (v1,v2,v3,v4)=>(bJ k p3 ([]:List Tr) v1 v2 v3 v4))
def bJ:Nat→Bool→(List Tr)→Tr→bG→Int→Int→Option ((List Tr)×bG×Int×Int)
 | 0,_,_,_,_,_,_=>none
 | k5+1,w0_0,w0_1,w0_2,w0_3,w0_4,w0_5=>(match w0_2 with | .nil=>(some (w0_1,w0_3,w0_4,w0_5)) | .node n6 n7 n8 n9 n10=>((aAs 8 w0_1 ([(.node n6 n7 n8 n9 n10)]:List Tr)).bind fun v11=>((dY k5 w0_3 w0_4 w0_5 w0_0).bind fun (v12,v13,v14,v15)=>(bJ k5 w0_0 v11 v12 v13 v14 v15))))
end
def aEC (k:Nat) (p0:bG) (p1:Int) (p2:Bool):Option ((List Tr)×Int×Int):=((aFm k p0 p1).bind fun (v1,v2,v3)=>((kP k v1 v2 v3 p2).bind fun (v4,_v5,v6,v7)=>(iteS (!decide (v7=0)) (some (([]:List Tr),v6,v7)) (some (v4,v6,0)))))
mutual
def rB:Nat→Tr→Option (Int)
 | 0,_=>none
 | k+1,p0=>(match p0 with | .nil=>(some 0) | .node _n1 _n2 _n3 _n4 n5=>(oM k 1 n5 0))
def oM:Nat→Int→(List Tr)→Int→Option (Int)
 | 0,_,_,_=>none
 | k6+1,w0_0,w0_1,w0_2=>(iteS (decide (w0_2<((w0_1.length:Nat):Int))) ((aT w0_1 w0_2).bind fun v7=>((rB k6 v7).bind fun v8=>(oM k6 (IntKind.i64.wrap (w0_0+v8)) w0_1 (IntKind.i64.wrap (w0_2+1))))) (some w0_0))
end
mutual
def lS:Nat→Tr→Option (Int)
 | 0,_=>none
 | k+1,p0=>(match p0 with | .nil=>(some 0) | .node _n1 _n2 _n3 _n4 n5=>(oY k 0 n5 0))
def oY:Nat→Int→(List Tr)→Int→Option (Int)
 | 0,_,_,_=>none
 | k6+1,w0_0,w0_1,w0_2=>(iteS (decide (w0_2<((w0_1.length:Nat):Int))) ((aT w0_1 w0_2).bind fun v7=>((lS k6 v7).bind fun v8=>(oY k6 (if w0_0<v8 then v8 else w0_0) w0_1 (IntKind.i64.wrap (w0_2+1))))) (some (IntKind.i64.wrap (w0_0+1))))
end
def fV:Nat→(List UInt8)→Int→bG→(List Tr)→Int→Option (Tr×Int×Int)
 | 0,_,_,_,_,_=>none
 | k7+1,c0_0,c0_1,c0_2,c0_3,c0_4=>(iteS (!decide (c0_1=0)) (iteS (decide (c0_4<((c0_2.length:Nat):Int))) ((aT c0_2 c0_4).bind fun v8=>(some (.nil,v8.2.2.2,c0_1))) (some (.nil,((c0_0.length:Nat):Int),c0_1))) ((gG k7 80 ([]:List UInt8) c0_3).bind fun v9=>((rB k7 v9).bind fun v10=>(iteS (decide (8192<v10)) (some (.nil,0,3)) ((lS k7 v9).bind fun v11=>(iteS (decide (60<v11)) (some (.nil,0,7)) (some (v9,0,0))))))))
def vJ (k:Nat) (p0:(List UInt8)):Option (Tr×Int×Int):=((uQ k p0).bind fun (v1,v2,v3)=>(iteS (!decide (v3=0)) (some (.nil,v2,v3)) ((aEC k v1 0 true).bind fun (v4,v5,v6)=>(iteS (decide (v6=0)) (iteS (decide (v5<((v1.length:Nat):Int))) (fV k p0 6 v1 v4 v5) (fV k p0 v6 v1 v4 v5)) (fV k p0 v6 v1 v4 v5)))))
mutual
def uR:Nat→Tr→Option (Bool)
 | 0,_=>none
 | k+1,p0=>((qM k p0).bind fun v1=>(some (!v1)))
def slices_IndexFunc:Nat→(List Tr)→Option (Int)
 | 0,_=>none
 | k+1,p0=>(eV k p0 0)
def eV:Nat→(List Tr)→Int→Option (Int)
 | 0,_,_=>none
 | k1+1,w0_0,w0_1=>(iteS (decide (w0_1<((w0_0.length:Nat):Int))) ((aT w0_0 w0_1).bind fun v2=>((uR k1 v2).bind fun v3=>(iteS v3 (some w0_1) (eV k1 w0_0 (IntKind.i64.wrap (w0_1+1)))))) (some (-1)))
def slices_ContainsFunc:Nat→(List Tr)→Option (Bool)
 | 0,_=>none
 | k+1,p0=>((slices_IndexFunc k p0).bind fun v1=>(some (decide (0≤v1))))
def qM:Nat→Tr→Option (Bool)
 | 0,_=>none
 | k+1,p0=>(match p0 with | .nil=>(some false) | .node _n1 _n2 _n3 _n4 n5=>((slices_ContainsFunc k n5).bind fun v6=>(some (!v6))))
end
mutual
def qS:Nat→Tr→(List (Int×Int×(List UInt8)×(List UInt8)×(List Int)))→Option (Int×(List (Int×Int×(List UInt8)×(List UInt8)×(List Int))))
 | 0,_,_=>none
 | k+1,p0,p1=>(match p0 with | .nil=>none | .node n1 n2 n3 n4 n5=>(lA k n5 0 p1 n1 n2 n3 n4 ([]:List Int)))
def lA:Nat→(List Tr)→Int→(List (Int×Int×(List UInt8)×(List UInt8)×(List Int)))→Int→Int→(List UInt8)→(List UInt8)→(List Int)→Option (Int×(List (Int×Int×(List UInt8)×(List UInt8)×(List Int))))
 | 0,_,_,_,_,_,_,_,_=>none
 | k6+1,w0_0,w0_1,w0_2,w0_3,w0_4,w0_5,w0_6,w0_7=>(iteS (decide (w0_1<((w0_0.length:Nat):Int))) ((aT w0_0 w0_1).bind fun v7=>((qS k6 v7 w0_2).bind fun (v8,v9)=>((aAs 8 w0_7 ([v8]:List Int)).bind fun v10=>(lA k6 w0_0 (IntKind.i64.wrap (w0_1+1)) v9 w0_3 w0_4 w0_5 w0_6 v10)))) ((aAs 72 w0_2 ([(w0_3,w0_4,w0_5,w0_6,w0_7)]:List (Int×Int×(List UInt8)×(List UInt8)×(List Int)))).bind fun v11=>(some ((IntKind.i64.wrap (((v11.length:Nat):Int) - 1)),v11))))
end
def wT (k:Nat) (p0:Tr):Option ((List (Int×Int×(List UInt8)×(List UInt8)×(List Int)))×Int):=((qM k p0).bind fun v1=>(iteS (!v1) (some (([]:List (Int×Int×(List UInt8)×(List UInt8)×(List Int))),1)) ((rB k p0).bind fun v2=>(iteS (decide (8192<v2)) (some (([]:List (Int×Int×(List UInt8)×(List UInt8)×(List Int))),3)) ((qS k p0 ([]:List (Int×Int×(List UInt8)×(List UInt8)×(List Int)))).bind fun (_v3,v4)=>(some (v4,0)))))))
def bI (_k:Nat) (p0:Tr) (p1:Bool) (p2:Bool) (p3:Bool):Option (Bool):=(iteS p1 (iteS p2 (iteS p3 (some true) (match p0 with | .nil=>none | .node _n1 n2 _n3 _n4 _n5=>(some (decide (n2=0))))) (match p0 with | .nil=>none | .node _n6 n7 _n8 n9 _n10=>(iteS (decide (n9=([]:List UInt8))) (iteS p3 (some true) (some (decide (n7=0)))) (some false)))) (match p0 with | .nil=>none | .node _n11 n12 n13 n14 _n15=>(iteS (decide (n13=([]:List UInt8))) (iteS p2 (iteS p3 (some true) (some (decide (n12=0)))) (iteS (decide (n14=([]:List UInt8))) (iteS p3 (some true) (some (decide (n12=0)))) (some false))) (some false))))
def zG:Nat→Tr→Option (Bool)
 | 0,_=>none
 | _k6+1,_w0_0=>(some true)
def hG (k:Nat) (p0:Tr):Option (Bool):=(match p0 with | .nil=>none | .node n1 n2 n3 n4 n5=>(iteS (!decide (((n5.length:Nat):Int)=0)) (some false) (zG k (.node n1 n2 n3 n4 n5))))
mutual
def rA:Nat→Tr→Option (Bool)
 | 0,_=>none
 | k+1,p0=>(match p0 with | .nil=>none | .node n1 n2 n3 n4 n5=>(pA k (.node n1 n2 n3 n4 n5) n5 0 ([]:List ((List UInt8)×Bool))))
def pA:Nat→Tr→(List Tr)→Int→(List ((List UInt8)×Bool))→Option (Bool)
 | 0,_,_,_,_=>none
 | k6+1,w0_0,w0_1,w0_2,w0_3=>(iteS (decide (w0_2<((w0_1.length:Nat):Int))) ((aT w0_1 w0_2).bind fun v7=>(match v7 with | .nil=>none | .node n8 n9 n10 n11 n12=>(iteS (!decide (n8=8)) (some false) ((bI k6 (.node n8 n9 n10 n11 n12) true false false).bind fun v13=>(iteS (!v13) (some false) ((eF k6 n10).bind fun v14=>(iteS (!v14) (some false) (iteS ((jN w0_3 n10).getD false) (some false) ((mG k6 (.node n8 n9 n10 n11 n12)).bind fun v15=>(iteS (!v15) (some false) (pA k6 w0_0 w0_1 (IntKind.i64.wrap (w0_2+1)) (aFX w0_3 n10 true)))))))))))) (match w0_0 with | .nil=>none | .node _n16 _n17 _n18 _n19 n20=>(some (decide (0<((n20.length:Nat):Int))))))
def tA:Nat→Tr→Option (Bool)
 | 0,_=>none
 | k+1,p0=>(match p0 with | .nil=>none | .node _n1 _n2 _n3 _n4 n5=>(iteS (!decide (((n5.length:Nat):Int)=2)) (some false) ((aT n5 0).bind fun v6=>((eW k v6).bind fun v7=>(iteS (!v7) (some false) ((aT n5 1).bind fun v8=>((eW k v8).bind fun v9=>(iteS (!v9) (some false) (some true)))))))))
def eW:Nat→Tr→Option (Bool)
 | 0,_=>none
 | k+1,p0=>(match p0 with | .nil=>none | .node n1 n2 n3 n4 n5=>(iteS (decide (n1=1)) ((bI k (.node n1 n2 n3 n4 n5) false false false).bind fun v6=>(iteS v6 ((hG k (.node n1 n2 n3 n4 n5)).bind fun v7=>(some v7)) (some false))) (iteS (decide (n1=2)) ((bI k (.node n1 n2 n3 n4 n5) false false false).bind fun v8=>(iteS v8 ((hG k (.node n1 n2 n3 n4 n5)).bind fun v9=>(some v9)) (some false))) (iteS (decide (n1=3)) ((bI k (.node n1 n2 n3 n4 n5) false false false).bind fun v10=>(iteS v10 ((hG k (.node n1 n2 n3 n4 n5)).bind fun v11=>(some v11)) (some false))) (iteS (decide (n1=4)) ((bI k (.node n1 n2 n3 n4 n5) true false false).bind fun v12=>(iteS v12 ((lR k n3).bind fun v13=>(iteS v13 ((hG k (.node n1 n2 n3 n4 n5)).bind fun v14=>(some v14)) (some false))) (some false))) (iteS (decide (n1=5)) ((bI k (.node n1 n2 n3 n4 n5) false false false).bind fun v15=>(iteS v15 ((tA k (.node n1 n2 n3 n4 n5)).bind fun v16=>(some v16)) (some false))) (iteS (decide (n1=6)) ((bI k (.node n1 n2 n3 n4 n5) false false false).bind fun v17=>(iteS v17 ((tA k (.node n1 n2 n3 n4 n5)).bind fun v18=>(some v18)) (some false))) (iteS (decide (n1=7)) ((bI k (.node n1 n2 n3 n4 n5) true false false).bind fun v19=>(iteS v19 ((eF k n3).bind fun v20=>(iteS v20 ((rA k (.node n1 n2 n3 n4 n5)).bind fun v21=>(some v21)) (some false))) (some false))) (some false)))))))))
def mG:Nat→Tr→Option (Bool)
 | 0,_=>none
 | k+1,p0=>(match p0 with | .nil=>none | .node _n1 _n2 _n3 _n4 n5=>(iteS (!decide (((n5.length:Nat):Int)=1)) (some false) ((aT n5 0).bind fun v6=>((eW k v6).bind fun v7=>(iteS (!v7) (some false) (some true))))))
end
mutual
def uN:Nat→Tr→Option (Bool)
 | 0,_=>none
 | k+1,p0=>(match p0 with | .nil=>none | .node _n1 _n2 _n3 _n4 n5=>(iteS (!decide (((n5.length:Nat):Int)=2)) (some false) ((aT n5 0).bind fun v6=>((lD k v6).bind fun v7=>(iteS (!v7) (some false) ((aT n5 1).bind fun v8=>((eW k v8).bind fun v9=>(iteS (!v9) (some false) (some true)))))))))
def uH:Nat→Tr→Option (Bool)
 | 0,_=>none
 | k+1,p0=>(match p0 with | .nil=>none | .node n1 n2 n3 n4 n5=>(iteS (decide (n1=64)) ((bI k (.node n1 n2 n3 n4 n5) false false false).bind fun v6=>(iteS v6 ((oJ k (.node n1 n2 n3 n4 n5)).bind fun v7=>(some v7)) (some false))) (iteS (decide (n1=65)) ((bI k (.node n1 n2 n3 n4 n5) true true false).bind fun v8=>(iteS v8 ((lR k n3).bind fun v9=>(iteS v9 ((lR k n4).bind fun v10=>(iteS v10 ((hG k (.node n1 n2 n3 n4 n5)).bind fun v11=>(some v11)) (some false))) (some false))) (some false))) ((bI k (.node n1 n2 n3 n4 n5) true false false).bind fun v12=>(iteS (!v12) (some false) ((eF k n3).bind fun v13=>(iteS (!v13) (some false) (iteS (decide (n1=60)) ((mG k (.node n1 n2 n3 n4 n5)).bind fun v14=>(some v14)) (iteS (decide (n1=61)) ((hG k (.node n1 n2 n3 n4 n5)).bind fun v15=>(iteS v15 (some true) ((mG k (.node n1 n2 n3 n4 n5)).bind fun v16=>(some v16)))) (iteS (decide (n1=62)) ((rA k (.node n1 n2 n3 n4 n5)).bind fun v17=>(some v17)) (iteS (decide (n1=63)) ((oJ k (.node n1 n2 n3 n4 n5)).bind fun v18=>(some v18)) (some false))))))))))))
def xI:Nat→Tr→Int→Option (Bool)
 | 0,_,_=>none
 | k+1,p0,p1=>(match p0 with | .nil=>none | .node _n1 _n2 _n3 _n4 n5=>((jD n5 p1 ((n5.length:Nat):Int)).bind fun v6=>(qF k v6 0)))
def qF:Nat→(List Tr)→Int→Option (Bool)
 | 0,_,_=>none
 | k7+1,w0_0,w0_1=>(iteS (decide (w0_1<((w0_0.length:Nat):Int))) ((aT w0_0 w0_1).bind fun v8=>((uH k7 v8).bind fun v9=>(iteS (!v9) (some false) (qF k7 w0_0 (IntKind.i64.wrap (w0_1+1)))))) (some true))
def lD:Nat→Tr→Option (Bool)
 | 0,_=>none
 | k+1,p0=>(match p0 with | .nil=>none | .node n1 n2 n3 n4 n5=>(iteS (decide (n1=50)) ((bI k (.node n1 n2 n3 n4 n5) false false false).bind fun v6=>(iteS v6 ((xI k (.node n1 n2 n3 n4 n5) 0).bind fun v7=>(some v7)) (some false))) (iteS (decide (n1=51)) ((bI k (.node n1 n2 n3 n4 n5) true false false).bind fun v8=>(iteS v8 ((eF k n3).bind fun v9=>(iteS v9 ((hG k (.node n1 n2 n3 n4 n5)).bind fun v10=>(some v10)) (some false))) (some false))) (iteS (decide (n1=52)) ((bI k (.node n1 n2 n3 n4 n5) true false false).bind fun v11=>(iteS v11 ((lR k n3).bind fun v12=>(iteS v12 ((uN k (.node n1 n2 n3 n4 n5)).bind fun v13=>(some v13)) (some false))) (some false))) (some false)))))
def oJ:Nat→Tr→Option (Bool)
 | 0,_=>none
 | k+1,p0=>(match p0 with | .nil=>none | .node _n1 _n2 _n3 _n4 n5=>(iteS (!decide (((n5.length:Nat):Int)=1)) (some false) ((aT n5 0).bind fun v6=>((lD k v6).bind fun v7=>(iteS (!v7) (some false) (some true))))))
end
mutual
def sS:Nat→Tr→Option (Bool)
 | 0,_=>none
 | k+1,p0=>(match p0 with | .nil=>none | .node n1 n2 n3 n4 n5=>(iteS (decide (n1=34)) ((bI k (.node n1 n2 n3 n4 n5) true true false).bind fun v6=>(iteS v6 ((eF k n3).bind fun v7=>(iteS v7 ((eF k n4).bind fun v8=>(iteS v8 ((qT k (.node n1 n2 n3 n4 n5)).bind fun v9=>(some v9)) (some false))) (some false))) (some false))) (some false)))
def aBs:Nat→Tr→Int→Option (Bool)
 | 0,_,_=>none
 | k+1,p0,p1=>(match p0 with | .nil=>none | .node _n1 _n2 _n3 _n4 n5=>((jD n5 p1 ((n5.length:Nat):Int)).bind fun v6=>(qK k v6 0)))
def qK:Nat→(List Tr)→Int→Option (Bool)
 | 0,_,_=>none
 | k7+1,w0_0,w0_1=>(iteS (decide (w0_1<((w0_0.length:Nat):Int))) ((aT w0_0 w0_1).bind fun v8=>((sS k7 v8).bind fun v9=>(iteS (!v9) (some false) (qK k7 w0_0 (IntKind.i64.wrap (w0_1+1)))))) (some true))
def aAi:Nat→Tr→Int→Option (Bool)
 | 0,_,_=>none
 | k+1,p0,p1=>(match p0 with | .nil=>none | .node n1 n2 n3 n4 n5=>(iteS (decide (p1<((n5.length:Nat):Int))) ((aBs k (.node n1 n2 n3 n4 n5) p1).bind fun v6=>(some v6)) (some false)))
def uE:Nat→Tr→Option (Bool)
 | 0,_=>none
 | k+1,p0=>(match p0 with | .nil=>none | .node _n1 _n2 _n3 _n4 n5=>(iteS (!decide (((n5.length:Nat):Int)=2)) (some false) ((aT n5 0).bind fun v6=>((fN k v6).bind fun v7=>(iteS (!v7) (some false) ((aT n5 1).bind fun v8=>((fN k v8).bind fun v9=>(iteS (!v9) (some false) (some true)))))))))
def qP:Nat→Tr→Option (Bool)
 | 0,_=>none
 | k+1,p0=>(match p0 with | .nil=>none | .node _n1 _n2 _n3 _n4 n5=>(iteS (!decide (((n5.length:Nat):Int)=2)) (some false) ((aT n5 0).bind fun v6=>((eW k v6).bind fun v7=>(iteS (!v7) (some false) ((aT n5 1).bind fun v8=>((fN k v8).bind fun v9=>(iteS (!v9) (some false) (some true)))))))))
def aE5:Nat→Tr→Int→Option (Bool)
 | 0,_,_=>none
 | k+1,p0,p1=>(match p0 with | .nil=>none | .node _n1 _n2 _n3 _n4 n5=>((jD n5 p1 ((n5.length:Nat):Int)).bind fun v6=>(uT k v6 0)))
def uT:Nat→(List Tr)→Int→Option (Bool)
 | 0,_,_=>none
 | k7+1,w0_0,w0_1=>(iteS (decide (w0_1<((w0_0.length:Nat):Int))) ((aT w0_0 w0_1).bind fun v8=>((fN k7 v8).bind fun v9=>(iteS (!v9) (some false) (uT k7 w0_0 (IntKind.i64.wrap (w0_1+1)))))) (some true))
def kQ:Nat→Tr→Int→Option (Bool)
 | 0,_,_=>none
 | k+1,p0,p1=>((bI k p0 false false false).bind fun v1=>(iteS v1 (match p0 with | .nil=>none | .node n2 n3 n4 n5 n6=>(iteS (decide (((n6.length:Nat):Int)=p1)) ((aE5 k (.node n2 n3 n4 n5 n6) 0).bind fun v7=>(some v7)) (some false))) (some false)))
def fN:Nat→Tr→Option (Bool)
 | 0,_=>none
 | k+1,p0=>(match p0 with | .nil=>none | .node n1 n2 n3 n4 n5=>(iteS (decide (n1=20)) ((bI k (.node n1 n2 n3 n4 n5) false false true).bind fun v6=>(iteS v6 (iteS (decide ((-1073741824)≤n2)) (iteS (decide (n2≤1073741824)) ((hG k (.node n1 n2 n3 n4 n5)).bind fun v7=>(some v7)) (some false)) (some false)) (some false))) (iteS (decide (n1=21)) ((bI k (.node n1 n2 n3 n4 n5) false false true).bind fun v8=>(iteS v8 (iteS (decide (n2=0)) ((hG k (.node n1 n2 n3 n4 n5)).bind fun v9=>(some v9)) (iteS (decide (n2=1)) ((hG k (.node n1 n2 n3 n4 n5)).bind fun v10=>(some v10)) (some false))) (some false))) (iteS (decide (n1=22)) ((kQ k (.node n1 n2 n3 n4 n5) 0).bind fun v11=>(some v11)) (iteS (decide (n1=23)) ((bI k (.node n1 n2 n3 n4 n5) true false false).bind fun v12=>(iteS v12 ((lR k n3).bind fun v13=>(iteS v13 ((hG k (.node n1 n2 n3 n4 n5)).bind fun v14=>(some v14)) (some false))) (some false))) (iteS (decide (n1=24)) ((bI k (.node n1 n2 n3 n4 n5) true false false).bind fun v15=>(iteS v15 ((eF k n3).bind fun v16=>(iteS v16 ((qP k (.node n1 n2 n3 n4 n5)).bind fun v17=>(some v17)) (some false))) (some false))) (iteS (decide (n1=25)) ((kQ k (.node n1 n2 n3 n4 n5) 2).bind fun v18=>(some v18)) (iteS (decide (n1=26)) ((kQ k (.node n1 n2 n3 n4 n5) 2).bind fun v19=>(some v19)) (iteS (decide (n1=27)) ((kQ k (.node n1 n2 n3 n4 n5) 1).bind fun v20=>(some v20)) (iteS (decide (n1=28)) ((kQ k (.node n1 n2 n3 n4 n5) 1).bind fun v21=>(some v21)) (iteS (decide (n1=29)) ((bI k (.node n1 n2 n3 n4 n5) true false false).bind fun v22=>(iteS v22 ((eF k n3).bind fun v23=>(iteS v23 ((uE k (.node n1 n2 n3 n4 n5)).bind fun v24=>(some v24)) (some false))) (some false))) (iteS (decide (n1=30)) ((kQ k (.node n1 n2 n3 n4 n5) 3).bind fun v25=>(some v25)) (iteS (decide (n1=31)) ((bI k (.node n1 n2 n3 n4 n5) false false true).bind fun v26=>(iteS v26 (iteS (decide (1≤n2)) (iteS (decide (n2≤5)) ((uE k (.node n1 n2 n3 n4 n5)).bind fun v27=>(some v27)) (some false)) (some false)) (some false))) (iteS (decide (n1=32)) ((bI k (.node n1 n2 n3 n4 n5) false false false).bind fun v28=>(iteS v28 ((aAi k (.node n1 n2 n3 n4 n5) 1).bind fun v29=>(iteS v29 ((aT n5 0).bind fun v30=>((fN k v30).bind fun v31=>(some v31))) (some false))) (some false))) (iteS (decide (n1=33)) ((bI k (.node n1 n2 n3 n4 n5) false false false).bind fun v32=>(iteS v32 ((aAi k (.node n1 n2 n3 n4 n5) 2).bind fun v33=>(iteS v33 ((aT n5 0).bind fun v34=>((fN k v34).bind fun v35=>(iteS v35 ((aT n5 1).bind fun v36=>((eW k v36).bind fun v37=>(some v37))) (some false)))) (some false))) (some false))) (some false))))))))))))))))
def qT:Nat→Tr→Option (Bool)
 | 0,_=>none
 | k+1,p0=>(match p0 with | .nil=>none | .node _n1 _n2 _n3 _n4 n5=>(iteS (!decide (((n5.length:Nat):Int)=1)) (some false) ((aT n5 0).bind fun v6=>((fN k v6).bind fun v7=>(iteS (!v7) (some false) (some true))))))
end
mutual
def sV:Nat→Tr→Option (Bool)
 | 0,_=>none
 | k+1,p0=>(match p0 with | .nil=>none | .node _n1 _n2 _n3 _n4 n5=>(iteS (!decide (((n5.length:Nat):Int)=2)) (some false) ((aT n5 0).bind fun v6=>((oN k v6).bind fun v7=>(iteS (!v7) (some false) ((aT n5 1).bind fun v8=>((lD k v8).bind fun v9=>(iteS (!v9) (some false) (some true)))))))))
def tG:Nat→Tr→Option (Bool)
 | 0,_=>none
 | k+1,p0=>(match p0 with | .nil=>none | .node _n1 _n2 _n3 _n4 n5=>(iteS (!decide (((n5.length:Nat):Int)=1)) (some false) ((aT n5 0).bind fun v6=>((oN k v6).bind fun v7=>(iteS (!v7) (some false) (some true))))))
def oW:Nat→Tr→Option (Bool)
 | 0,_=>none
 | k+1,p0=>((bI k p0 true false false).bind fun v1=>(iteS (!v1) (some false) (match p0 with | .nil=>none | .node n2 n3 n4 n5 n6=>(iteS (decide (n2=76)) ((lR k n4).bind fun v7=>(iteS v7 ((hG k (.node n2 n3 n4 n5 n6)).bind fun v8=>(some v8)) (some false))) (iteS (decide (n2=77)) ((lR k n4).bind fun v9=>(iteS v9 ((hG k (.node n2 n3 n4 n5 n6)).bind fun v10=>(some v10)) (some false))) (dN k (.node n2 n3 n4 n5 n6)))))))
def dN:Nat→Tr→Option (Bool)
 | 0,_=>none
 | k11+1,c0_0=>(match c0_0 with | .nil=>none | .node n12 n13 n14 n15 n16=>((eF k11 n14).bind fun v17=>(iteS (!v17) (some false) (iteS (decide (n12=70)) ((qT k11 (.node n12 n13 n14 n15 n16)).bind fun v18=>(iteS v18 (some true) ((qP k11 (.node n12 n13 n14 n15 n16)).bind fun v19=>(some v19)))) (iteS (decide (n12=71)) ((mG k11 (.node n12 n13 n14 n15 n16)).bind fun v20=>(some v20)) (iteS (decide (n12=72)) ((rA k11 (.node n12 n13 n14 n15 n16)).bind fun v21=>(some v21)) (iteS (decide (n12=73)) ((tG k11 (.node n12 n13 n14 n15 n16)).bind fun v22=>(some v22)) (some false))))))))
def wW:Nat→Tr→Int→Option (Bool)
 | 0,_,_=>none
 | k+1,p0,p1=>(match p0 with | .nil=>none | .node _n1 _n2 _n3 _n4 n5=>((jD n5 p1 ((n5.length:Nat):Int)).bind fun v6=>(qG k v6 0)))
def qG:Nat→(List Tr)→Int→Option (Bool)
 | 0,_,_=>none
 | k7+1,w0_0,w0_1=>(iteS (decide (w0_1<((w0_0.length:Nat):Int))) ((aT w0_0 w0_1).bind fun v8=>((oW k7 v8).bind fun v9=>(iteS (!v9) (some false) (qG k7 w0_0 (IntKind.i64.wrap (w0_1+1)))))) (some true))
def oN:Nat→Tr→Option (Bool)
 | 0,_=>none
 | k+1,p0=>(match p0 with | .nil=>none | .node n1 n2 n3 n4 n5=>(iteS (decide (n1=40)) ((bI k (.node n1 n2 n3 n4 n5) false false false).bind fun v6=>(iteS v6 ((wW k (.node n1 n2 n3 n4 n5) 0).bind fun v7=>(some v7)) (some false))) (iteS (decide (n1=41)) ((bI k (.node n1 n2 n3 n4 n5) true false false).bind fun v8=>(iteS v8 ((lR k n3).bind fun v9=>(iteS v9 ((hG k (.node n1 n2 n3 n4 n5)).bind fun v10=>(some v10)) (some false))) (some false))) (iteS (decide (n1=42)) ((bI k (.node n1 n2 n3 n4 n5) true false false).bind fun v11=>(iteS v11 ((eF k n3).bind fun v12=>(iteS v12 ((tG k (.node n1 n2 n3 n4 n5)).bind fun v13=>(some v13)) (some false))) (some false))) (iteS (decide (n1=43)) ((bI k (.node n1 n2 n3 n4 n5) false false true).bind fun v14=>(iteS v14 (iteS (decide (n2=0)) ((sV k (.node n1 n2 n3 n4 n5)).bind fun v15=>(some v15)) (iteS (decide (n2=1)) ((sV k (.node n1 n2 n3 n4 n5)).bind fun v16=>(some v16)) (some false))) (some false))) (some false))))))
end
def zN (k:Nat) (p0:Tr):Option (Bool):=(match p0 with | .nil=>none | .node _n1 _n2 _n3 _n4 n5=>(iteS (!decide (((n5.length:Nat):Int)=2)) (some false) ((aT n5 0).bind fun v6=>((lD k v6).bind fun v7=>(iteS (!v7) (some false) ((aT n5 1).bind fun v8=>((oN k v8).bind fun v9=>(iteS (!v9) (some false) (some true)))))))))
def aBj (k:Nat) (p0:Tr):Option (Bool):=(match p0 with | .nil=>none | .node n1 n2 n3 n4 n5=>(iteS (decide (n1=74)) ((bI k (.node n1 n2 n3 n4 n5) true false false).bind fun v6=>(iteS v6 ((eF k n3).bind fun v7=>(iteS v7 ((oJ k (.node n1 n2 n3 n4 n5)).bind fun v8=>(some v8)) (some false))) (some false))) (iteS (decide (n1=75)) ((bI k (.node n1 n2 n3 n4 n5) true true false).bind fun v9=>(iteS v9 ((eF k n3).bind fun v10=>(iteS v10 ((eF k n4).bind fun v11=>(iteS v11 ((zN k (.node n1 n2 n3 n4 n5)).bind fun v12=>(some v12)) (some false))) (some false))) (some false))) ((oW k (.node n1 n2 n3 n4 n5)).bind fun v13=>(some v13)))))
def qJ:Nat→(List Tr)→Int→Option (Bool)
 | 0,_,_=>none
 | k7+1,w0_0,w0_1=>(iteS (decide (w0_1<((w0_0.length:Nat):Int))) ((aT w0_0 w0_1).bind fun v8=>((aBj k7 v8).bind fun v9=>(iteS (!v9) (some false) (qJ k7 w0_0 (IntKind.i64.wrap (w0_1+1)))))) (some true))
def aBx (k:Nat) (p0:Tr) (p1:Int):Option (Bool):=(match p0 with | .nil=>none | .node _n1 _n2 _n3 _n4 n5=>((jD n5 p1 ((n5.length:Nat):Int)).bind fun v6=>(qJ k v6 0)))
def xN (k:Nat) (p0:Tr):Option (Bool):=(match p0 with | .nil=>none | .node n1 n2 n3 n4 n5=>(iteS (decide (n1=80)) ((bI k (.node n1 n2 n3 n4 n5) false false false).bind fun v6=>(iteS v6 ((aBx k (.node n1 n2 n3 n4 n5) 0).bind fun v7=>(some v7)) (some false))) (some false)))
def aKZ (k:Nat) (p0:Tr):Option (Int):=((wT k p0).bind fun (_v1,v2)=>(iteS (!decide (v2=0)) (some v2) ((lS k p0).bind fun v3=>(iteS (decide (60<v3)) (some 7) ((xN k p0).bind fun v4=>(iteS (!v4) (some 16) (some 0)))))))
def aE4 (k:Nat) (p0:Tr):Option (Int):=((aKZ k p0).bind fun v1=>(some v1))
def aGV (k:Nat) (p0:Tr):Option (Int):=((wT k p0).bind fun (_v1,v2)=>(iteS (!decide (v2=0)) (some v2) ((lS k p0).bind fun v3=>(iteS (decide (60<v3)) (some 7) ((eW k p0).bind fun v4=>(iteS (!v4) (some 16) (some 0)))))))
def aIv (k:Nat) (p0:Tr):Option (Int):=((aGV k p0).bind fun v1=>(some v1))
def aAQ (_k:Nat) (p0:Bool) (p1:(List UInt8)):Option ((List UInt8)):=(iteS p0 ((catS ([40,32]:List UInt8) p1).bind fun v1=>((catS v1 ([32,41]:List UInt8)).bind fun v2=>(some v2))) (some p1))
def strings_Join (_:Nat) (p0:List (List UInt8)) (p1:List UInt8):Option (List UInt8):=if (Lib.join p0 p1).length≤140737488355328∧p0.length≤140737488355328 then some (Lib.join p0 p1) else none
mutual
def eS:Nat→Tr→Int→Option ((List UInt8))
 | 0,_,_=>none
 | k+1,p0,p1=>(match p0 with | .nil=>none | .node n1 n2 n3 n4 n5=>(iteS (decide (n1=5)) ((aT n5 0).bind fun v6=>((aT n5 1).bind fun v7=>((eS k v6 1).bind fun v8=>((catS v8 ([32,45,62,32]:List UInt8)).bind fun v9=>((eS k v7 0).bind fun v10=>((catS v9 v10).bind fun v11=>((aAQ k (decide (0<p1)) v11).bind fun v12=>(some v12)))))))) (iteS (decide (n1=6)) ((aT n5 0).bind fun v13=>((aT n5 1).bind fun v14=>((eS k v13 2).bind fun v15=>((catS v15 ([32,42,32]:List UInt8)).bind fun v16=>((eS k v14 1).bind fun v17=>((catS v16 v17).bind fun v18=>((aAQ k (decide (1<p1)) v18).bind fun v19=>(some v19)))))))) (iteS (decide (n1=1)) (some ([105,110,116]:List UInt8)) (iteS (decide (n1=2)) (some ([98,111,111,108]:List UInt8)) (iteS (decide (n1=3)) (some ([117,110,105,116]:List UInt8)) (iteS (decide (n1=7)) (mZ k (.node n1 n2 n3 n4 n5) ([]:List (List UInt8)) n5 0) (some n3))))))))
def mZ:Nat→Tr→(List (List UInt8))→(List Tr)→Int→Option ((List UInt8))
 | 0,_,_,_,_=>none
 | k20+1,w0_0,w0_1,w0_2,w0_3=>(iteS (decide (w0_3<((w0_2.length:Nat):Int))) ((aT w0_2 w0_3).bind fun v21=>(match v21 with | .nil=>none | .node _n22 _n23 n24 _n25 n26=>((catS n24 ([32,111,102,32]:List UInt8)).bind fun v27=>((aT n26 0).bind fun v28=>((eS k20 v28 0).bind fun v29=>((catS v27 v29).bind fun v30=>((aAs 16 w0_1 ([v30]:List (List UInt8))).bind fun v31=>(mZ k20 w0_0 v31 w0_2 (IntKind.i64.wrap (w0_3+1)))))))))) (match w0_0 with | .nil=>none | .node _n32 _n33 n34 _n35 _n36=>((catS ([109,117,32]:List UInt8) n34).bind fun v37=>((catS v37 ([32,123,32]:List UInt8)).bind fun v38=>((strings_Join k20 w0_1 ([32,124,32]:List UInt8)).bind fun v39=>((catS v38 v39).bind fun v40=>((catS v40 ([32,125]:List UInt8)).bind fun v41=>(some v41))))))))
end
def aAI (k:Nat) (p0:Tr):Option ((List UInt8)×Int):=((aIv k p0).bind fun v1=>(iteS (!decide (v1=0)) (some (([]:List UInt8),v1)) ((eS k p0 0).bind fun v2=>(some (v2,0)))))
def jO (k:Nat) (p0:Tr):Option ((List UInt8)):=((aAI k p0).bind fun (v1,_v2)=>(some v1))
def aG7 (k:Nat) (p0:Tr):Option (Int):=((wT k p0).bind fun (_v1,v2)=>(iteS (!decide (v2=0)) (some v2) ((lS k p0).bind fun v3=>(iteS (decide (60<v3)) (some 7) ((fN k p0).bind fun v4=>(iteS (!v4) (some 16) (some 0)))))))
def aIx (k:Nat) (p0:Tr):Option (Int):=((aG7 k p0).bind fun v1=>(some v1))
def mQ (_k:Nat) (p0:Bool) (p1:(List UInt8)):Option ((List UInt8)):=(iteS p0 ((catS ([40,32]:List UInt8) p1).bind fun v1=>((catS v1 ([32,41]:List UInt8)).bind fun v2=>(some v2))) (some p1))
def mD (k:Nat) (p0:Tr):Option ((List UInt8)):=((aAI k p0).bind fun (v1,_v2)=>(some v1))
mutual
def nQ:Nat→(List Tr)→Option ((List UInt8))
 | 0,_=>none
 | k+1,p0=>(fO k ([]:List (List UInt8)) p0 0)
def fO:Nat→(List (List UInt8))→(List Tr)→Int→Option ((List UInt8))
 | 0,_,_,_=>none
 | k1+1,w0_0,w0_1,w0_2=>(iteS (decide (w0_2<((w0_1.length:Nat):Int))) ((aT w0_1 w0_2).bind fun v2=>(match v2 with | .nil=>none | .node _n3 _n4 n5 n6 n7=>((catS n5 ([32]:List UInt8)).bind fun v8=>((catS v8 n6).bind fun v9=>((catS v9 ([32,61,62,32]:List UInt8)).bind fun v10=>((aT n7 0).bind fun v11=>((cB k1 v11 0).bind fun v12=>((catS v10 v12).bind fun v13=>((aAs 16 w0_0 ([v13]:List (List UInt8))).bind fun v14=>(fO k1 v14 w0_1 (IntKind.i64.wrap (w0_2+1)))))))))))) ((strings_Join k1 w0_0 ([32,124,32]:List UInt8)).bind fun v15=>((catS v15 ([32,101,110,100]:List UInt8)).bind fun v16=>(some v16))))
def yY:Nat→Tr→Int→Option ((List UInt8))
 | 0,_,_=>none
 | k+1,p0,p1=>(match p0 with | .nil=>none | .node n1 n2 n3 n4 n5=>(iteS (decide (n2=1)) (fZ k (.node n1 n2 n3 n4 n5) p1 2 2 ([32,43,32]:List UInt8)) (iteS (decide (n2=2)) (fZ k (.node n1 n2 n3 n4 n5) p1 2 2 ([32,45,32]:List UInt8)) (iteS (decide (n2=3)) (fZ k (.node n1 n2 n3 n4 n5) p1 3 3 ([32,42,32]:List UInt8)) (iteS (decide (n2=4)) (fZ k (.node n1 n2 n3 n4 n5) p1 1 2 ([32,61,32]:List UInt8)) (fZ k (.node n1 n2 n3 n4 n5) p1 1 2 ([32,60,32]:List UInt8)))))))
def fZ:Nat→Tr→Int→Int→Int→(List UInt8)→Option ((List UInt8))
 | 0,_,_,_,_,_=>none
 | k6+1,c0_0,c0_1,c0_2,c0_3,c0_4=>(match c0_0 with | .nil=>none | .node _n7 _n8 _n9 _n10 n11=>((aT n11 0).bind fun v12=>((aT n11 1).bind fun v13=>((cB k6 v12 c0_3).bind fun v14=>((catS v14 c0_4).bind fun v15=>((cB k6 v13 (IntKind.i64.wrap (c0_2+1))).bind fun v16=>((catS v15 v16).bind fun v17=>((mQ k6 (decide (c0_2<c0_1)) v17).bind fun v18=>(some v18)))))))))
def dE:Nat→Int→Int→Tr→Option ((List UInt8))
 | 0,_,_,_=>none
 | k+1,p0,p1,p2=>(match p2 with | .nil=>none | .node _n1 _n2 _n3 _n4 n5=>((aT n5 p0).bind fun v6=>((cB k v6 p1).bind fun v7=>(some v7))))
def cB:Nat→Tr→Int→Option ((List UInt8))
 | 0,_,_=>none
 | k+1,p0,p1=>(match p0 with | .nil=>none | .node n1 n2 n3 n4 n5=>(iteS (decide (n1=20)) ((tV k n2).bind fun v6=>(some v6)) (iteS (decide (n1=21)) (iteS (decide (n2=1)) (some ([116,114,117,101]:List UInt8)) (some ([102,97,108,115,101]:List UInt8))) (iteS (decide (n1=22)) (some ([40,32,41]:List UInt8)) (iteS (decide (n1=23)) (some n3) (iteS (decide (n1=26)) ((dE k 0 0 (.node n1 n2 n3 n4 n5)).bind fun v7=>((catS ([40,32]:List UInt8) v7).bind fun v8=>((catS v8 ([32,44,32]:List UInt8)).bind fun v9=>((dE k 1 0 (.node n1 n2 n3 n4 n5)).bind fun v10=>((catS v9 v10).bind fun v11=>((catS v11 ([32,41]:List UInt8)).bind fun v12=>(some v12))))))) (iteS (decide (n1=27)) ((dE k 0 5 (.node n1 n2 n3 n4 n5)).bind fun v13=>((catS ([35,49,32]:List UInt8) v13).bind fun v14=>(some v14))) (iteS (decide (n1=28)) ((dE k 0 5 (.node n1 n2 n3 n4 n5)).bind fun v15=>((catS ([35,50,32]:List UInt8) v15).bind fun v16=>(some v16))) (iteS (decide (n1=25)) ((dE k 0 4 (.node n1 n2 n3 n4 n5)).bind fun v17=>((catS v17 ([32]:List UInt8)).bind fun v18=>((dE k 1 5 (.node n1 n2 n3 n4 n5)).bind fun v19=>((catS v18 v19).bind fun v20=>((mQ k (decide (4<p1)) v20).bind fun v21=>(some v21)))))) (iteS (decide (n1=31)) ((yY k (.node n1 n2 n3 n4 n5) p1).bind fun v22=>(some v22)) (iteS (decide (n1=24)) ((catS ([102,110,32,40,32]:List UInt8) n3).bind fun v23=>((catS v23 ([32,58,32]:List UInt8)).bind fun v24=>((aT n5 0).bind fun v25=>((mD k v25).bind fun v26=>((catS v24 v26).bind fun v27=>((catS v27 ([32,41,32,61,62,32]:List UInt8)).bind fun v28=>((dE k 1 0 (.node n1 n2 n3 n4 n5)).bind fun v29=>((catS v28 v29).bind fun v30=>((mQ k (decide (0<p1)) v30).bind fun v31=>(some v31)))))))))) (iteS (decide (n1=29)) ((catS ([108,101,116,32]:List UInt8) n3).bind fun v32=>((catS v32 ([32,61,32]:List UInt8)).bind fun v33=>((dE k 0 0 (.node n1 n2 n3 n4 n5)).bind fun v34=>((catS v33 v34).bind fun v35=>((catS v35 ([32,105,110,32]:List UInt8)).bind fun v36=>((dE k 1 0 (.node n1 n2 n3 n4 n5)).bind fun v37=>((catS v36 v37).bind fun v38=>((catS v38 ([32,101,110,100]:List UInt8)).bind fun v39=>((mQ k (decide (0<p1)) v39).bind fun v40=>(some v40)))))))))) (iteS (decide (n1=30)) ((dE k 0 0 (.node n1 n2 n3 n4 n5)).bind fun v41=>((catS ([105,102,32]:List UInt8) v41).bind fun v42=>((catS v42 ([32,116,104,101,110,32]:List UInt8)).bind fun v43=>((dE k 1 0 (.node n1 n2 n3 n4 n5)).bind fun v44=>((catS v43 v44).bind fun v45=>((catS v45 ([32,101,108,115,101,32]:List UInt8)).bind fun v46=>((dE k 2 0 (.node n1 n2 n3 n4 n5)).bind fun v47=>((catS v46 v47).bind fun v48=>((mQ k (decide (0<p1)) v48).bind fun v49=>(some v49)))))))))) (iteS (decide (n1=32)) ((jD n5 1 ((n5.length:Nat):Int)).bind fun v50=>((dE k 0 0 (.node n1 n2 n3 n4 n5)).bind fun v51=>((catS ([99,97,115,101,32]:List UInt8) v51).bind fun v52=>((catS v52 ([32,111,102,32]:List UInt8)).bind fun v53=>((nQ k v50).bind fun v54=>((catS v53 v54).bind fun v55=>((mQ k (decide (0<p1)) v55).bind fun v56=>(some v56)))))))) ((aT n5 1).bind fun v57=>((jD n5 2 ((n5.length:Nat):Int)).bind fun v58=>((dE k 0 0 (.node n1 n2 n3 n4 n5)).bind fun v59=>((catS ([102,111,108,100,32]:List UInt8) v59).bind fun v60=>((catS v60 ([32,116,111,32]:List UInt8)).bind fun v61=>((mD k v57).bind fun v62=>((catS v61 v62).bind fun v63=>((catS v63 ([32,111,102,32]:List UInt8)).bind fun v64=>((nQ k v58).bind fun v65=>((catS v64 v65).bind fun v66=>((mQ k (decide (0<p1)) v66).bind fun v67=>(some v67))))))))))))))))))))))))))
end
def aGf (k:Nat) (p0:Tr):Option ((List UInt8)×Int):=((aIx k p0).bind fun v1=>(iteS (!decide (v1=0)) (some (([]:List UInt8),v1)) ((cB k p0 0).bind fun v2=>(some (v2,0)))))
def tL (k:Nat) (p0:Tr):Option ((List UInt8)):=((aGf k p0).bind fun (v1,_v2)=>(some v1))
def kR:Nat→(List (List UInt8))→(List (List UInt8))→Int→Option ((List UInt8))
 | 0,_,_,_=>none
 | k1+1,w0_0,w0_1,w0_2=>(iteS (decide (w0_2<((w0_1.length:Nat):Int))) ((aT w0_1 w0_2).bind fun v2=>(iteS (!decide (v2=([]:List UInt8))) ((aAs 16 w0_0 ([v2]:List (List UInt8))).bind fun v3=>(kR k1 v3 w0_1 (IntKind.i64.wrap (w0_2+1)))) (kR k1 w0_0 w0_1 (IntKind.i64.wrap (w0_2+1))))) ((strings_Join k1 w0_0 ([32]:List UInt8)).bind fun v4=>(some v4)))
def bR (k:Nat) (p0:(List (List UInt8))):Option ((List UInt8)):=(kR k ([]:List (List UInt8)) p0 0)
def pB:Nat→(List (List UInt8))→(List Tr)→Int→Option ((List UInt8))
 | 0,_,_,_=>none
 | k1+1,w0_0,w0_1,w0_2=>(iteS (decide (w0_2<((w0_1.length:Nat):Int))) ((aT w0_1 w0_2).bind fun v2=>(match v2 with | .nil=>none | .node _n3 _n4 n5 _n6 n7=>((aT n7 0).bind fun v8=>((jO k1 v8).bind fun v9=>((bR k1 ([n5,([111,102]:List UInt8),v9]:List (List UInt8))).bind fun v10=>((aAs 16 w0_0 ([v10]:List (List UInt8))).bind fun v11=>(pB k1 v11 w0_1 (IntKind.i64.wrap (w0_2+1))))))))) ((strings_Join k1 w0_0 ([32,124,32]:List UInt8)).bind fun v12=>(some v12)))
def aCz (k:Nat) (p0:(List Tr)):Option ((List UInt8)):=(pB k ([]:List (List UInt8)) p0 0)
mutual
def eH:Nat→Tr→Option ((List UInt8))
 | 0,_=>none
 | k+1,p0=>(match p0 with | .nil=>none | .node n1 _n2 n3 n4 n5=>(iteS (decide (n1=60)) ((aT n5 0).bind fun v6=>((jO k v6).bind fun v7=>((bR k ([([118,97,108]:List UInt8),n3,([58]:List UInt8),v7]:List (List UInt8))).bind fun v8=>(some v8)))) (iteS (decide (n1=61)) (iteS (decide (((n5.length:Nat):Int)=0)) ((bR k ([([116,121,112,101]:List UInt8),n3]:List (List UInt8))).bind fun v9=>(some v9)) ((aT n5 0).bind fun v10=>((jO k v10).bind fun v11=>((bR k ([([116,121,112,101]:List UInt8),n3,([61]:List UInt8),v11]:List (List UInt8))).bind fun v12=>(some v12))))) (iteS (decide (n1=62)) ((aCz k n5).bind fun v13=>((bR k ([([100,97,116,97,116,121,112,101]:List UInt8),n3,([61]:List UInt8),v13]:List (List UInt8))).bind fun v14=>(some v14))) (iteS (decide (n1=63)) ((aT n5 0).bind fun v15=>((fJ k v15).bind fun v16=>((bR k ([([115,116,114,117,99,116,117,114,101]:List UInt8),n3,([58]:List UInt8),v16]:List (List UInt8))).bind fun v17=>(some v17)))) (iteS (decide (n1=64)) ((aT n5 0).bind fun v18=>((fJ k v18).bind fun v19=>((bR k ([([105,110,99,108,117,100,101]:List UInt8),v19]:List (List UInt8))).bind fun v20=>(some v20)))) ((bR k ([([115,104,97,114,105,110,103,32,116,121,112,101]:List UInt8),n3,([61]:List UInt8),n4]:List (List UInt8))).bind fun v21=>(some v21))))))))
def aCt:Nat→(List Tr)→Option ((List UInt8))
 | 0,_=>none
 | k+1,p0=>(oQ k ([]:List (List UInt8)) p0 0)
def oQ:Nat→(List (List UInt8))→(List Tr)→Int→Option ((List UInt8))
 | 0,_,_,_=>none
 | k1+1,w0_0,w0_1,w0_2=>(iteS (decide (w0_2<((w0_1.length:Nat):Int))) ((aT w0_1 w0_2).bind fun v2=>((eH k1 v2).bind fun v3=>((aAs 16 w0_0 ([v3]:List (List UInt8))).bind fun v4=>(oQ k1 v4 w0_1 (IntKind.i64.wrap (w0_2+1)))))) ((bR k1 w0_0).bind fun v5=>(some v5)))
def fJ:Nat→Tr→Option ((List UInt8))
 | 0,_=>none
 | k+1,p0=>(match p0 with | .nil=>none | .node n1 _n2 n3 _n4 n5=>(iteS (decide (n1=51)) (some n3) (iteS (decide (n1=52)) ((aT n5 0).bind fun v6=>((aT n5 1).bind fun v7=>((fJ k v6).bind fun v8=>((jO k v7).bind fun v9=>((bR k ([v8,([119,104,101,114,101,32,116,121,112,101]:List UInt8),n3,([61]:List UInt8),v9]:List (List UInt8))).bind fun v10=>(some v10)))))) ((aCt k n5).bind fun v11=>((bR k ([([115,105,103]:List UInt8),v11,([101,110,100]:List UInt8)]:List (List UInt8))).bind fun v12=>(some v12))))))
end
mutual
def wY:Nat→(List Tr)→Option ((List UInt8))
 | 0,_=>none
 | k+1,p0=>(lB k ([]:List (List UInt8)) p0 0)
def lB:Nat→(List (List UInt8))→(List Tr)→Int→Option ((List UInt8))
 | 0,_,_,_=>none
 | k1+1,w0_0,w0_1,w0_2=>(iteS (decide (w0_2<((w0_1.length:Nat):Int))) ((aT w0_1 w0_2).bind fun v2=>((bY k1 v2).bind fun v3=>((aAs 16 w0_0 ([v3]:List (List UInt8))).bind fun v4=>(lB k1 v4 w0_1 (IntKind.i64.wrap (w0_2+1)))))) ((bR k1 w0_0).bind fun v5=>(some v5)))
def iF:Nat→Tr→Option ((List UInt8))
 | 0,_=>none
 | k+1,p0=>(match p0 with | .nil=>none | .node n1 n2 n3 n4 n5=>(iteS (decide (n1=41)) (some n3) (iteS (decide (n1=42)) ((aT n5 0).bind fun v6=>((iF k v6).bind fun v7=>((bR k ([n3,([40]:List UInt8),v7,([41]:List UInt8)]:List (List UInt8))).bind fun v8=>(some v8)))) (iteS (decide (n1=43)) (iteS (decide (n2=1)) (tY k (.node n1 n2 n3 n4 n5) ([58,62]:List UInt8)) (tY k (.node n1 n2 n3 n4 n5) ([58]:List UInt8))) ((wY k n5).bind fun v20=>((bR k ([([115,116,114,117,99,116]:List UInt8),v20,([101,110,100]:List UInt8)]:List (List UInt8))).bind fun v21=>(some v21)))))))
def tY:Nat→Tr→(List UInt8)→Option ((List UInt8))
 | 0,_,_=>none
 | k9+1,c0_0,c0_1=>(match c0_0 with | .nil=>none | .node _n10 _n11 _n12 _n13 n14=>((aT n14 0).bind fun v15=>((aT n14 1).bind fun v16=>((iF k9 v15).bind fun v17=>((fJ k9 v16).bind fun v18=>((bR k9 ([v17,c0_1,v18]:List (List UInt8))).bind fun v19=>(some v19)))))))
def bY:Nat→Tr→Option ((List UInt8))
 | 0,_=>none
 | k+1,p0=>(match p0 with | .nil=>none | .node n1 _n2 n3 n4 n5=>(iteS (decide (n1=70)) (iteS (decide (((n5.length:Nat):Int)=2)) ((aT n5 0).bind fun v6=>((aT n5 1).bind fun v7=>((jO k v6).bind fun v8=>((tL k v7).bind fun v9=>((bR k ([([118,97,108]:List UInt8),n3,([58]:List UInt8),v8,([61]:List UInt8),v9]:List (List UInt8))).bind fun v10=>(some v10)))))) ((aT n5 0).bind fun v11=>((tL k v11).bind fun v12=>((bR k ([([118,97,108]:List UInt8),n3,([61]:List UInt8),v12]:List (List UInt8))).bind fun v13=>(some v13))))) (iteS (decide (n1=71)) ((aT n5 0).bind fun v14=>((jO k v14).bind fun v15=>((bR k ([([116,121,112,101]:List UInt8),n3,([61]:List UInt8),v15]:List (List UInt8))).bind fun v16=>(some v16)))) (iteS (decide (n1=72)) ((aCz k n5).bind fun v17=>((bR k ([([100,97,116,97,116,121,112,101]:List UInt8),n3,([61]:List UInt8),v17]:List (List UInt8))).bind fun v18=>(some v18))) (iteS (decide (n1=73)) ((aT n5 0).bind fun v19=>((iF k v19).bind fun v20=>((bR k ([([115,116,114,117,99,116,117,114,101]:List UInt8),n3,([61]:List UInt8),v20]:List (List UInt8))).bind fun v21=>(some v21)))) (iteS (decide (n1=74)) ((aT n5 0).bind fun v22=>((fJ k v22).bind fun v23=>((bR k ([([115,105,103,110,97,116,117,114,101]:List UInt8),n3,([61]:List UInt8),v23]:List (List UInt8))).bind fun v24=>(some v24)))) (iteS (decide (n1=75)) ((aT n5 0).bind fun v25=>((aT n5 1).bind fun v26=>((fJ k v25).bind fun v27=>((iF k v26).bind fun v28=>((bR k ([([102,117,110,99,116,111,114]:List UInt8),n3,([40]:List UInt8),n4,([58]:List UInt8),v27,([41]:List UInt8),([61]:List UInt8),v28]:List (List UInt8))).bind fun v29=>(some v29)))))) (iteS (decide (n1=76)) ((bR k ([([111,112,101,110]:List UInt8),n3]:List (List UInt8))).bind fun v30=>(some v30)) ((bR k ([([105,110,99,108,117,100,101]:List UInt8),n3]:List (List UInt8))).bind fun v31=>(some v31))))))))))
end
def oP:Nat→List Tr→List UInt8→Int→Option (List UInt8)
 | 0,_,_,_=>none
 | k+1,ks,acc,i=>iteS (decide (i<((ks.length:Nat):Int))) ((aT ks i).bind fun v=>(bY k v).bind fun s=>if acc.length+(s.length+1)≤140737488355328 then oP k ks (acc++(s++[10])) (IntKind.i64.wrap (i+1)) else none) (some acc)
def aAn (k:Nat) (p0:Tr):Option ((List UInt8)×Int):=(aE4 k p0).bind fun e=>if e=0 then (match p0 with | .nil=>none | .node _ _ _ _ ks=>(oP k ks [] 0).bind fun s=>if 16384<s.length then some ([],3) else some (s,0)) else some ([],e)
def aJR (k:Nat) (p0:(List UInt8)):Option ((List UInt8)×Int×Int):=((vJ k p0).bind fun (v1,v2,v3)=>(iteS (!decide (v3=0)) (some (([]:List UInt8),v2,v3)) ((aAn k v1).bind fun (v4,v5)=>(some (v4,0,v5)))))
def vL (k:Nat):Option (Bool):=((aJR k ([118,97,108,32,120,61,40,49,41]:List UInt8)).bind fun (v1,v2,v3)=>(iteS (decide (v1=([118,97,108,32,120,32,61,32,49,10]:List UInt8))) (iteS (decide (v2=0)) (some (decide (v3=0))) (some false)) (some false)))
mutual
def rZ:Nat→(List Tr)→(List Tr)→Option (Bool)
 | 0,_,_=>none
 | k+1,p0,p1=>(iteS (!decide (((p0.length:Nat):Int)=((p1.length:Nat):Int))) (some false) (gR k p1 p0 0))
def gR:Nat→(List Tr)→(List Tr)→Int→Option (Bool)
 | 0,_,_,_=>none
 | k1+1,w0_0,w0_1,w0_2=>(iteS (decide (w0_2<((w0_1.length:Nat):Int))) ((aT w0_1 w0_2).bind fun v2=>((aT w0_0 w0_2).bind fun v3=>((tH k1 v2 v3).bind fun v4=>(iteS (!v4) (some false) (gR k1 w0_0 w0_1 (IntKind.i64.wrap (w0_2+1))))))) (some true))
def tH:Nat→Tr→Tr→Option (Bool)
 | 0,_,_=>none
 | k+1,p0,p1=>(match p0 with | .nil=>(match p1 with | .nil=>(some true) | .node _n6 _n7 _n8 _n9 _n10=>(some false)) | .node n1 n2 n3 n4 n5=>(match p1 with | .nil=>(some false) | .node n11 n12 n13 n14 n15=>(iteS (decide (n1=n11)) (iteS (decide (n2=n12)) (iteS (decide (n3=n13)) (iteS (decide (n4=n14)) ((rZ k n5 n15).bind fun v16=>(some v16)) (some false)) (some false)) (some false)) (some false))))
end
def mW:Nat→(List (Int×Int×(List UInt8)×(List UInt8)×(List Int)))→Int→(List (Int×Int×(List UInt8)×(List UInt8)×(List Int)))→Option ((List (Int×Int×(List UInt8)×(List UInt8)×(List Int))))
 | 0,_,_,_=>none
 | k1+1,w0_0,w0_1,w0_2=>(iteS (decide (w0_1<((w0_0.length:Nat):Int))) (iteS (decide (w0_1<120)) ((aT w0_0 w0_1).bind fun v2=>((jD v2.2.2.1 0 (if 130<((v2.2.2.1.length:Nat):Int) then 130 else ((v2.2.2.1.length:Nat):Int))).bind fun v3=>((jD v2.2.2.2.1 0 (if 130<((v2.2.2.2.1.length:Nat):Int) then 130 else ((v2.2.2.2.1.length:Nat):Int))).bind fun v4=>((jD v2.2.2.2.2 0 (if 12<((v2.2.2.2.2.length:Nat):Int) then 12 else ((v2.2.2.2.2.length:Nat):Int))).bind fun v5=>((aAs 8 ([]:List Int) v5).bind fun v6=>((aAs 72 w0_2 ([(v2.1,v2.2.1,v3,v4,v6)]:List (Int×Int×(List UInt8)×(List UInt8)×(List Int)))).bind fun v7=>(mW k1 w0_0 (IntKind.i64.wrap (w0_1+1)) v7))))))) (some w0_2)) (some w0_2))
def aDo (k:Nat) (p0:(List (Int×Int×(List UInt8)×(List UInt8)×(List Int)))):Option ((List (Int×Int×(List UInt8)×(List UInt8)×(List Int)))):=(mW k p0 0 ([]:List (Int×Int×(List UInt8)×(List UInt8)×(List Int))))
def hY:Nat→(List Bool)→Bool→Int→Option (Int)
 | 0,_,_,_=>none
 | k1+1,w0_0,w0_1,w0_2=>(iteS (decide (w0_2<((w0_0.length:Nat):Int))) ((aT w0_0 w0_2).bind fun v2=>(iteS (w0_1 == v2) (some w0_2) (hY k1 w0_0 w0_1 (IntKind.i64.wrap (w0_2+1))))) (some (-1)))
def aBF (k:Nat) (p0:(List Bool)) (p1:Bool):Option (Int):=(hY k p0 p1 0)
def qY (k:Nat) (p0:(List Bool)) (p1:Bool):Option (Bool):=((aBF k p0 p1).bind fun v1=>(some (decide (0≤v1))))
mutual
def oS:Nat→(List (Int×Int×(List UInt8)×(List UInt8)×(List Int)))→(List Tr)→(List Bool)→Int→Option (Tr×Int)
 | 0,_,_,_,_=>none
 | k3+1,w0_0,w0_1,w0_2,w0_3=>(iteS (decide (w0_3<((w0_0.length:Nat):Int))) ((aT w0_0 w0_3).bind fun v4=>(oO k3 w0_0 w0_1 w0_2 w0_3 w0_3 v4.2.2.2.2 0 v4.1 v4.2.1 v4.2.2.1 v4.2.2.2.1 ([]:List Tr))) ((jD w0_2 0 (IntKind.i64.wrap (((w0_0.length:Nat):Int) - 1))).bind fun v12=>((qY k3 v12 false).bind fun v13=>(iteS v13 (some (.nil,16)) (if 0≤(IntKind.i64.wrap (((w0_0.length:Nat):Int) - 1))∧(IntKind.i64.wrap (((w0_0.length:Nat):Int) - 1))<((w0_1.length:Nat):Int) then ((aT w0_1 (IntKind.i64.wrap (((w0_0.length:Nat):Int) - 1))).bind fun v14=>(some (v14,0))) else none)))))
def oO:Nat→(List (Int×Int×(List UInt8)×(List UInt8)×(List Int)))→(List Tr)→(List Bool)→Int→Int→(List Int)→Int→Int→Int→(List UInt8)→(List UInt8)→(List Tr)→Option (Tr×Int)
 | 0,_,_,_,_,_,_,_,_,_,_,_,_=>none
 | k5+1,w1_0,w1_1,w1_2,w1_3,w1_4,w1_5,w1_6,w1_7,w1_8,w1_9,w1_10,w1_11=>(iteS (decide (w1_6<((w1_5.length:Nat):Int))) ((aT w1_5 w1_6).bind fun v6=>(iteS (decide (v6<0)) (some (.nil,16)) (iteS (decide (w1_3≤v6)) (some (.nil,16)) (if 0≤v6∧v6<((w1_2.length:Nat):Int) then ((aT w1_2 v6).bind fun v7=>(iteS v7 (some (.nil,16)) (if 0≤v6∧v6<((w1_2.length:Nat):Int) then ((aT w1_2 v6).bind fun _u8=>(if 0≤v6∧v6<((w1_1.length:Nat):Int) then ((aT w1_1 v6).bind fun v9=>((aAs 8 w1_11 ([v9]:List Tr)).bind fun v10=>(oO k5 w1_0 w1_1 (w1_2.set (v6).toNat true) w1_3 w1_4 w1_5 (IntKind.i64.wrap (w1_6+1)) w1_7 w1_8 w1_9 w1_10 v10))) else none)) else none))) else none)))) (if 0≤w1_3∧w1_3<((w1_1.length:Nat):Int) then ((aT w1_1 w1_3).bind fun _u11=>(oS k5 w1_0 (w1_1.set (w1_3).toNat (.node w1_7 w1_8 w1_9 w1_10 w1_11)) w1_2 (IntKind.i64.wrap (w1_4+1)))) else none))
end
def aFP (k:Nat) (p0:(List (Int×Int×(List UInt8)×(List UInt8)×(List Int)))):Option (Tr×Int):=(iteS (decide (((p0.length:Nat):Int)=0)) (some (.nil,1)) (iteS (decide (8192<((p0.length:Nat):Int))) (some (.nil,3)) ((mkL 8 (Tr.nil:Tr) ((p0.length:Nat):Int)).bind fun v1=>((mkL 1 (false:Bool) ((p0.length:Nat):Int)).bind fun v2=>(oS k p0 v1 v2 0)))))
def uJ (k:Nat) (p0:(List (Int×Int×(List UInt8)×(List UInt8)×(List Int)))):Option (Bool):=((aDo k p0).bind fun v1=>((aFP k v1).bind fun (v2,v3)=>((aAn k v2).bind fun (v4,v5)=>(iteS (!decide (v3=0)) (iteS (decide (v4=([]:List UInt8))) ((vL k).bind fun v6=>(some v6)) (some false)) (iteS (!decide (v5=0)) (iteS (decide (v4=([]:List UInt8))) ((vL k).bind fun v7=>(some v7)) (some false)) ((vJ k v4).bind fun (v8,v9,v10)=>(iteS (decide (v10=0)) (iteS (decide (v9=0)) ((tH k v2 v8).bind fun v11=>(iteS v11 ((vL k).bind fun v12=>(some v12)) (some false))) (some false)) (some false))))))))
end Go.Proofs.YtjhfgiieicloeaaGreatDoor

