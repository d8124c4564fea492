/- Joined texts: KFn. -/
import Derived.Test.YtjhfgiieicloeaaGreatDoorGd
import Derived.Lib.Strings
import Derived.Lib.Slices
import Derived.Lib.Walk
import Derived.Lib.Bytealg
import Derived.Lib.Join
/- What the Go functions come to, as Lean functions with fuel. Printed by sxgen.py of this session. -/
namespace Go.Proofs.YtjhfgiieicloeaaGreatDoor
open Go Go.Am Go.Sx
abbrev bF:=List (Int×List UInt8×Int×Int)
abbrev hZ:Ty:=.list false (.pair (.int .i64) (.pair .str (.pair (.int .i64) (.int .i64))))
def utf8_ValidRune (_k:Nat) (p0:Int):Option (Bool):=(iteS (decide (0≤p0)) (iteS (decide (p0<55296)) (some true) (iteS (decide (57343<p0)) (iteS (decide (p0≤1114111)) (some true) (some false)) (some false))) (iteS (decide (57343<p0)) (iteS (decide (p0≤1114111)) (some true) (some false)) (some false)))
def oR (k:Nat) (p0:Int):Option (Int):=(iteS (decide (65≤p0)) (iteS (decide (p0≤90)) (some 1) (iteS (decide (97≤p0)) (iteS (decide (p0≤122)) (some 1) (iteS (decide (p0=95)) (some 1) (iteS (decide (48≤p0)) (iteS (decide (p0≤57)) (some 2) (iteS (decide (p0=32)) (some 3) (iteS (decide (p0=9)) (some 3) (iteS (decide (p0=10)) (some 3) (iteS (decide (128≤p0)) (iteS (!decide (p0=65533)) ((utf8_ValidRune k p0).bind fun v1=>(iteS v1 (some 1) (some 0))) (some 0)) (some 0)))))) (iteS (decide (p0=32)) (some 3) (iteS (decide (p0=9)) (some 3) (iteS (decide (p0=10)) (some 3) (iteS (decide (128≤p0)) (iteS (!decide (p0=65533)) ((utf8_ValidRune k p0).bind fun v2=>(iteS v2 (some 1) (some 0))) (some 0)) (some 0)))))))) (iteS (decide (p0=95)) (some 1) (iteS (decide (48≤p0)) (iteS (decide (p0≤57)) (some 2) (iteS (decide (p0=32)) (some 3) (iteS (decide (p0=9)) (some 3) (iteS (decide (p0=10)) (some 3) (iteS (decide (128≤p0)) (iteS (!decide (p0=65533)) ((utf8_ValidRune k p0).bind fun v3=>(iteS v3 (some 1) (some 0))) (some 0)) (some 0)))))) (iteS (decide (p0=32)) (some 3) (iteS (decide (p0=9)) (some 3) (iteS (decide (p0=10)) (some 3) (iteS (decide (128≤p0)) (iteS (!decide (p0=65533)) ((utf8_ValidRune k p0).bind fun v4=>(iteS v4 (some 1) (some 0))) (some 0)) (some 0))))))))) (iteS (decide (97≤p0)) (iteS (decide (p0≤122)) (some 1) (iteS (decide (p0=95)) (some 1) (iteS (decide (48≤p0)) (iteS (decide (p0≤57)) (some 2) (iteS (decide (p0=32)) (some 3) (iteS (decide (p0=9)) (some 3) (iteS (decide (p0=10)) (some 3) (iteS (decide (128≤p0)) (iteS (!decide (p0=65533)) ((utf8_ValidRune k p0).bind fun v5=>(iteS v5 (some 1) (some 0))) (some 0)) (some 0)))))) (iteS (decide (p0=32)) (some 3) (iteS (decide (p0=9)) (some 3) (iteS (decide (p0=10)) (some 3) (iteS (decide (128≤p0)) (iteS (!decide (p0=65533)) ((utf8_ValidRune k p0).bind fun v6=>(iteS v6 (some 1) (some 0))) (some 0)) (some 0)))))))) (iteS (decide (p0=95)) (some 1) (iteS (decide (48≤p0)) (iteS (decide (p0≤57)) (some 2) (iteS (decide (p0=32)) (some 3) (iteS (decide (p0=9)) (some 3) (iteS (decide (p0=10)) (some 3) (iteS (decide (128≤p0)) (iteS (!decide (p0=65533)) ((utf8_ValidRune k p0).bind fun v7=>(iteS v7 (some 1) (some 0))) (some 0)) (some 0)))))) (iteS (decide (p0=32)) (some 3) (iteS (decide (p0=9)) (some 3) (iteS (decide (p0=10)) (some 3) (iteS (decide (128≤p0)) (iteS (!decide (p0=65533)) ((utf8_ValidRune k p0).bind fun v8=>(iteS v8 (some 1) (some 0))) (some 0)) (some 0)))))))))
def kJ:Nat→(List UInt8)→Int→Option (Int×Int)
 | 0,_,_=>none
 | k1+1,w0_0,w0_1=>(iteS (decide ((w0_1:Int).toNat<w0_0.length)) (iteS (decide ((((gJ w0_0 ((w0_1:Int).toNat)).1:Nat):Int)=65533)) (some ((((w0_1:Int).toNat:Nat):Int),4)) (iteS (decide ((((gJ w0_0 ((w0_1:Int).toNat)).1:Nat):Int)<32)) ((oR k1 (((gJ w0_0 ((w0_1:Int).toNat)).1:Nat):Int)).bind fun v2=>(iteS (!decide (v2=3)) (some ((((w0_1:Int).toNat:Nat):Int),4)) (iteS (decide ((((gJ w0_0 ((w0_1:Int).toNat)).1:Nat):Int)=127)) (some ((((w0_1:Int).toNat:Nat):Int),4)) (kJ k1 w0_0 (((w0_1:Int).toNat+(gJ w0_0 ((w0_1:Int).toNat)).2:Nat):Int))))) (iteS (decide ((((gJ w0_0 ((w0_1:Int).toNat)).1:Nat):Int)=127)) (some ((((w0_1:Int).toNat:Nat):Int),4)) (kJ k1 w0_0 (((w0_1:Int).toNat+(gJ w0_0 ((w0_1:Int).toNat)).2:Nat):Int))))) (some (0,0)))
def aAL (k:Nat) (p0:(List UInt8)):Option (Int×Int):=(iteS (decide (16384<((p0.length:Nat):Int))) (some (0,3)) (kJ k p0 0))
def aDm (k:Nat) (p0:Int):Option (Bool):=((oR k p0).bind fun v1=>(some (decide (v1=3))))
def oV:Nat→(List UInt8)→(List UInt8)→Int→Option (Int)
 | 0,_,_,_=>none
 | k1+1,w0_0,w0_1,w0_2=>(iteS (decide ((w0_2:Int).toNat<w0_1.length)) ((aDm k1 (((gJ w0_1 ((w0_2:Int).toNat)).1:Nat):Int)).bind fun v2=>(iteS (!v2) (some (((w0_2:Int).toNat:Nat):Int)) (oV k1 w0_0 w0_1 (((w0_2:Int).toNat+(gJ w0_1 ((w0_2:Int).toNat)).2:Nat):Int)))) (some ((w0_0.length:Nat):Int)))
def aAG (k:Nat) (p0:(List UInt8)):Option (Int):=(oV k p0 p0 0)
def stringslite_HasPrefix (_k:Nat) (p0:(List UInt8)) (p1:(List UInt8)):Option (Bool):=(iteS (decide (((p1.length:Nat):Int)≤((p0.length:Nat):Int))) ((jA p0 0 ((p1.length:Nat):Int)).bind fun v1=>(some (decide (v1=p1)))) (some false))
def strings_HasPrefix (k:Nat) (p0:(List UInt8)) (p1:(List UInt8)):Option (Bool):=((stringslite_HasPrefix k p0 p1).bind fun v1=>(some v1))
def lQ:Nat→(List UInt8)→Int→Int→Option (Int)
 | 0,_,_,_=>none
 | k1+1,w0_0,w0_1,w0_2=>(iteS (decide (w0_2<((w0_0.length:Nat):Int))) ((jA w0_0 w0_2 ((w0_0.length:Nat):Int)).bind fun v2=>((strings_HasPrefix k1 v2 ([40,42]:List UInt8)).bind fun v3=>(iteS v3 (lQ k1 w0_0 (IntKind.i64.wrap (w0_1+1)) (IntKind.i64.wrap (w0_2+2))) ((jA w0_0 w0_2 ((w0_0.length:Nat):Int)).bind fun v4=>((strings_HasPrefix k1 v4 ([42,41]:List UInt8)).bind fun v5=>(iteS v5 (iteS (decide ((IntKind.i64.wrap (w0_1 - 1))=0)) (some (IntKind.i64.wrap (w0_2+2))) (lQ k1 w0_0 (IntKind.i64.wrap (w0_1 - 1)) (IntKind.i64.wrap (w0_2+2)))) (lQ k1 w0_0 w0_1 (IntKind.i64.wrap (w0_2+1))))))))) (some 0))
def aHf (k:Nat) (p0:(List UInt8)):Option (Int):=(lQ k p0 0 0)
def vZ:Nat→(List UInt8)→Int→Option (Int)
 | 0,_,_=>none
 | _k1+1,w0_0,w0_1=>(iteS (decide ((w0_1:Int).toNat<w0_0.length)) (some (((gJ w0_0 ((w0_1:Int).toNat)).1:Nat):Int)) (some 0))
def aDh (k:Nat) (p0:(List UInt8)):Option (Int):=(vZ k p0 0)
def aDj (k:Nat) (p0:Int):Option (Bool):=((oR k p0).bind fun v1=>(iteS (decide (v1=1)) (some true) (iteS (decide (v1=2)) (some true) (some (decide (p0=39))))))
def jR:Nat→(List UInt8)→(List UInt8)→Int→Option (Int)
 | 0,_,_,_=>none
 | k1+1,w0_0,w0_1,w0_2=>(iteS (decide ((w0_2:Int).toNat<w0_1.length)) ((aDj k1 (((gJ w0_1 ((w0_2:Int).toNat)).1:Nat):Int)).bind fun v2=>(iteS (!v2) (some (((w0_2:Int).toNat:Nat):Int)) (jR k1 w0_0 w0_1 (((w0_2:Int).toNat+(gJ w0_1 ((w0_2:Int).toNat)).2:Nat):Int)))) (some ((w0_0.length:Nat):Int)))
def uH (k:Nat) (p0:(List UInt8)):Option (Int):=(jR k p0 p0 0)
def aDn (_k:Nat):Option ((List (List UInt8))):=(some ([([118,97,108]:List UInt8),([116,121,112,101]:List UInt8),([100,97,116,97,116,121,112,101]:List UInt8),([115,116,114,117,99,116,117,114,101]:List UInt8),([115,105,103,110,97,116,117,114,101]:List UInt8),([102,117,110,99,116,111,114]:List UInt8),([111,112,101,110]:List UInt8),([105,110,99,108,117,100,101]:List UInt8),([115,116,114,117,99,116]:List UInt8),([101,110,100]:List UInt8),([115,105,103]:List UInt8),([119,104,101,114,101]:List UInt8),([115,104,97,114,105,110,103]:List UInt8),([102,110]:List UInt8),([108,101,116]:List UInt8),([105,110]:List UInt8),([105,102]:List UInt8),([116,104,101,110]:List UInt8),([101,108,115,101]:List UInt8),([99,97,115,101]:List UInt8),([102,111,108,100]:List UInt8),([111,102]:List UInt8),([116,111]:List UInt8),([105,110,116]:List UInt8),([98,111,111,108]:List UInt8),([117,110,105,116]:List UInt8),([116,114,117,101]:List UInt8),([102,97,108,115,101]:List UInt8),([109,117]:List UInt8)]:List (List UInt8)))
def fK:Nat→(List (List UInt8))→(List UInt8)→Int→Option (Int)
 | 0,_,_,_=>none
 | k1+1,w0_0,w0_1,w0_2=>(iteS (decide (w0_2<((w0_0.length:Nat):Int))) ((aU w0_0 w0_2).bind fun v2=>(iteS (decide (w0_1=v2)) (some w0_2) (fK k1 w0_0 w0_1 (IntKind.i64.wrap (w0_2+1))))) (some (-1)))
def slices_Index (k:Nat) (p0:(List (List UInt8))) (p1:(List UInt8)):Option (Int):=(fK k p0 p1 0)
def slices_Contains (k:Nat) (p0:(List (List UInt8))) (p1:(List UInt8)):Option (Bool):=((slices_Index k p0 p1).bind fun v1=>(some (decide (0≤v1))))
def tW (k:Nat) (p0:(List UInt8)):Option (Bool):=((aDn k).bind fun v1=>((slices_Contains k v1 p0).bind fun v2=>(some v2)))
def utf8_word (_k:Nat) (p0:(List UInt8)):Option (Int):=((aU p0 0).bind fun c1=>((aU p0 1).bind fun c2=>((shI .shl .u64 (IntKind.u64.wrap ((c2.toNat:Nat):Int)) 8).bind fun v3=>((pW .or .u64 (IntKind.u64.wrap ((c1.toNat:Nat):Int)) v3).bind fun v4=>((aU p0 2).bind fun c5=>((shI .shl .u64 (IntKind.u64.wrap ((c5.toNat:Nat):Int)) 16).bind fun v6=>((pW .or .u64 v4 v6).bind fun v7=>((aU p0 3).bind fun c8=>((shI .shl .u64 (IntKind.u64.wrap ((c8.toNat:Nat):Int)) 24).bind fun v9=>((pW .or .u64 v7 v9).bind fun v10=>((aU p0 4).bind fun c11=>((shI .shl .u64 (IntKind.u64.wrap ((c11.toNat:Nat):Int)) 32).bind fun v12=>((pW .or .u64 v10 v12).bind fun v13=>((aU p0 5).bind fun c14=>((shI .shl .u64 (IntKind.u64.wrap ((c14.toNat:Nat):Int)) 40).bind fun v15=>((pW .or .u64 v13 v15).bind fun v16=>((aU p0 6).bind fun c17=>((shI .shl .u64 (IntKind.u64.wrap ((c17.toNat:Nat):Int)) 48).bind fun v18=>((pW .or .u64 v16 v18).bind fun v19=>((aU p0 7).bind fun c20=>((shI .shl .u64 (IntKind.u64.wrap ((c20.toNat:Nat):Int)) 56).bind fun v21=>((pW .or .u64 v19 v21).bind fun v22=>(some v22)))))))))))))))))))))))
mutual
def aS:Nat→(List UInt8)→Option (Bool)
 | 0,_=>none
 | k1+1,w0_0=>(iteS (decide (0<((w0_0.length:Nat):Int))) ((aU w0_0 0).bind fun c2=>(iteS (decide (((c2.toNat:Nat):Int)<128)) ((jA w0_0 1 ((w0_0.length:Nat):Int)).bind fun v3=>(iteS (decide (8<((v3.length:Nat):Int))) ((utf8_word k1 v3).bind fun v4=>((pW .and .u64 v4 9259542123273814144).bind fun v5=>(iteS (decide (v5=0)) ((jA v3 8 ((v3.length:Nat):Int)).bind fun v6=>(iteS (decide (16<((v6.length:Nat):Int))) ((jA v6 8 ((v6.length:Nat):Int)).bind fun v7=>((utf8_word k1 v6).bind fun v8=>((utf8_word k1 v7).bind fun v9=>((pW .or .u64 v8 v9).bind fun v10=>((pW .and .u64 v10 9259542123273814144).bind fun v11=>(iteS (decide (v11=0)) ((jA v6 16 ((v6.length:Nat):Int)).bind fun v12=>(cY k1 v12)) (aS k1 v6))))))) (aS k1 v6))) (aS k1 v3)))) (aS k1 v3))) ((aU bAF ((c2.toNat:Nat):Int)).bind fun v26=>((pW .and .u8 v26 7).bind fun v27=>((shI .shr .u8 v26 4).bind fun v28=>((aU aZE v28).bind fun v29=>(iteS (decide ((IntKind.i64.wrap v27)=2)) (iteS (decide (((w0_0.length:Nat):Int)<2)) (some false) ((aU w0_0 1).bind fun c30=>(iteS (decide (((c30.toNat:Nat):Int)<v29.1)) (some false) ((aU w0_0 1).bind fun c31=>(iteS (decide (v29.2<((c31.toNat:Nat):Int))) (some false) ((jA w0_0 2 ((w0_0.length:Nat):Int)).bind fun v32=>(aS k1 v32))))))) (iteS (decide ((IntKind.i64.wrap v27)=3)) (iteS (decide (((w0_0.length:Nat):Int)<3)) (some false) ((aU w0_0 1).bind fun c33=>(iteS (decide (((c33.toNat:Nat):Int)<v29.1)) (some false) ((aU w0_0 1).bind fun c34=>(iteS (decide (v29.2<((c34.toNat:Nat):Int))) (some false) ((aU w0_0 2).bind fun c35=>(iteS (decide (((c35.toNat:Nat):Int)<128)) (some false) ((aU w0_0 2).bind fun c36=>(iteS (decide (191<((c36.toNat:Nat):Int))) (some false) ((jA w0_0 3 ((w0_0.length:Nat):Int)).bind fun v37=>(aS k1 v37))))))))))) (iteS (decide ((IntKind.i64.wrap v27)=4)) (iteS (decide (((w0_0.length:Nat):Int)<4)) (some false) ((aU w0_0 1).bind fun c38=>(iteS (decide (((c38.toNat:Nat):Int)<v29.1)) (some false) ((aU w0_0 1).bind fun c39=>(iteS (decide (v29.2<((c39.toNat:Nat):Int))) (some false) ((aU w0_0 2).bind fun c40=>(iteS (decide (((c40.toNat:Nat):Int)<128)) (some false) ((aU w0_0 2).bind fun c41=>(iteS (decide (191<((c41.toNat:Nat):Int))) (some false) ((aU w0_0 3).bind fun c42=>(iteS (decide (((c42.toNat:Nat):Int)<128)) (some false) ((aU w0_0 3).bind fun c43=>(iteS (decide (191<((c43.toNat:Nat):Int))) (some false) ((jA w0_0 4 ((w0_0.length:Nat):Int)).bind fun v44=>(aS k1 v44))))))))))))))) (some false)))))))))) (some true))
def cY:Nat→(List UInt8)→Option (Bool)
 | 0,_=>none
 | k13+1,w1_0=>(iteS (decide (32<((w1_0.length:Nat):Int))) ((jA w1_0 8 ((w1_0.length:Nat):Int)).bind fun v14=>((jA w1_0 16 ((w1_0.length:Nat):Int)).bind fun v15=>((jA w1_0 24 ((w1_0.length:Nat):Int)).bind fun v16=>((utf8_word k13 w1_0).bind fun v17=>((utf8_word k13 v14).bind fun v18=>((pW .or .u64 v17 v18).bind fun v19=>((utf8_word k13 v15).bind fun v20=>((utf8_word k13 v16).bind fun v21=>((pW .or .u64 v20 v21).bind fun v22=>((pW .or .u64 v19 v22).bind fun v23=>((pW .and .u64 v23 9259542123273814144).bind fun v24=>(iteS (decide (v24=0)) ((jA w1_0 32 ((w1_0.length:Nat):Int)).bind fun v25=>(cY k13 v25)) (aS k13 w1_0))))))))))))) (aS k13 w1_0))
end
def utf8_ValidString (k:Nat) (p0:(List UInt8)):Option (Bool):=(aS k p0)
def kG:Nat→(List UInt8)→Int→Option (Bool)
 | 0,_,_=>none
 | k2+1,w0_0,w0_1=>(iteS (decide ((w0_1:Int).toNat<w0_0.length)) ((oR k2 (((gJ w0_0 ((w0_1:Int).toNat)).1:Nat):Int)).bind fun v3=>(iteS (decide (v3=1)) (kG k2 w0_0 (((w0_1:Int).toNat+(gJ w0_0 ((w0_1:Int).toNat)).2:Nat):Int)) (iteS (decide (v3=2)) (iteS (decide ((((w0_1:Int).toNat:Nat):Int)=0)) (some false) (kG k2 w0_0 (((w0_1:Int).toNat+(gJ w0_0 ((w0_1:Int).toNat)).2:Nat):Int))) (iteS (decide ((((w0_1:Int).toNat:Nat):Int)=0)) (some false) (iteS (!decide ((((gJ w0_0 ((w0_1:Int).toNat)).1:Nat):Int)=39)) (some false) (kG k2 w0_0 (((w0_1:Int).toNat+(gJ w0_0 ((w0_1:Int).toNat)).2:Nat):Int))))))) (some true))
def wF (k:Nat) (p0:(List UInt8)):Option (Bool):=(iteS (decide (p0=([]:List UInt8))) (some false) (iteS (decide (32<((p0.length:Nat):Int))) (some false) ((utf8_ValidString k p0).bind fun v1=>(iteS (!v1) (some false) (kG k p0 0)))))
def iJ:Nat→(List UInt8)→Int→Bool→Option (Int×(List UInt8)×Int×Int×Int×Bool)
 | 0,_,_,_=>none
 | k11+1,w0_0,w0_1,w0_2=>(iteS w0_2 (iteS (decide (w0_1<((w0_0.length:Nat):Int))) ((aU w0_0 w0_1).bind fun c12=>(iteS (decide (((c12.toNat:Nat):Int)=46)) ((jA w0_0 (IntKind.i64.wrap (w0_1+1)) ((w0_0.length:Nat):Int)).bind fun v13=>((uH k11 v13).bind fun v14=>((jA w0_0 (IntKind.i64.wrap (w0_1+1)) ((w0_0.length:Nat):Int)).bind fun v15=>((jA v15 0 v14).bind fun v16=>((wF k11 v16).bind fun v17=>(iteS v17 ((tW k11 v16).bind fun v18=>(iJ k11 w0_0 (IntKind.i64.wrap (w0_1+(IntKind.i64.wrap (1+v14)))) (!v18))) (iJ k11 w0_0 (IntKind.i64.wrap (w0_1+(IntKind.i64.wrap (1+v14)))) false))))))) ((jA w0_0 0 w0_1).bind fun v19=>(some (1,v19,0,0,w0_1,(decide (w0_1≤128))))))) ((jA w0_0 0 w0_1).bind fun v20=>(some (1,v20,0,0,w0_1,(decide (w0_1≤128)))))) ((jA w0_0 0 w0_1).bind fun v21=>(some (1,v21,0,0,w0_1,false))))
def aE7 (k:Nat) (p0:(List UInt8)):Option (Int×(List UInt8)×Int×Int×Int×Bool):=((uH k p0).bind fun v1=>((jA p0 0 v1).bind fun v2=>((tW k v2).bind fun v3=>(iteS v3 (iteS (decide (((p0.length:Nat):Int)=v1)) ((jA p0 0 v1).bind fun v4=>(some (3,v4,0,0,v1,true))) ((aU p0 v1).bind fun c5=>(iteS (!decide (((c5.toNat:Nat):Int)=46)) ((jA p0 0 v1).bind fun v6=>(some (3,v6,0,0,v1,true))) ((jA p0 0 v1).bind fun v7=>((wF k v7).bind fun v8=>(iteS v8 ((jA p0 0 v1).bind fun v9=>((tW k v9).bind fun v10=>(iJ k p0 v1 (!v10)))) (iJ k p0 v1 false))))))) ((jA p0 0 v1).bind fun v22=>((wF k v22).bind fun v23=>(iteS v23 ((jA p0 0 v1).bind fun v24=>((tW k v24).bind fun v25=>(iJ k p0 v1 (!v25)))) (iJ k p0 v1 false))))))))
def wT (k:Nat) (p0:Int):Option (Bool):=((oR k p0).bind fun v1=>(some (decide (v1=2))))
def lA:Nat→(List UInt8)→(List UInt8)→Int→Option (Int)
 | 0,_,_,_=>none
 | k1+1,w0_0,w0_1,w0_2=>(iteS (decide ((w0_2:Int).toNat<w0_1.length)) ((wT k1 (((gJ w0_1 ((w0_2:Int).toNat)).1:Nat):Int)).bind fun v2=>(iteS (!v2) (some (((w0_2:Int).toNat:Nat):Int)) (lA k1 w0_0 w0_1 (((w0_2:Int).toNat+(gJ w0_1 ((w0_2:Int).toNat)).2:Nat):Int)))) (some ((w0_0.length:Nat):Int)))
def aBu (k:Nat) (p0:(List UInt8)):Option (Int):=(lA k p0 p0 0)
def eV:Nat→(List Int)→Int→Int→Option ((List Int))
 | 0,_,_,_=>none
 | k1+1,w0_0,w0_1,w0_2=>(iteS (decide (w0_1<w0_2)) (if 0≤w0_2∧w0_2<((w0_0.length:Nat):Int) then ((aU w0_0 w0_2).bind fun v2=>(if 0≤w0_1∧w0_1<((w0_0.length:Nat):Int) then ((aU w0_0 w0_1).bind fun v3=>(if 0≤w0_1∧w0_1<((w0_0.length:Nat):Int) then ((aU w0_0 w0_1).bind fun _u4=>(if 0≤w0_2∧w0_2<(((w0_0.set (w0_1).toNat v2).length:Nat):Int) then ((aU (w0_0.set (w0_1).toNat v2) w0_2).bind fun _u5=>(eV k1 ((w0_0.set (w0_1).toNat v2).set (w0_2).toNat v3) (IntKind.i64.wrap (w0_1+1)) (IntKind.i64.wrap (w0_2 - 1)))) else none)) else none)) else none)) else none) (some w0_0))
def slices_Reverse (k:Nat) (p0:(List Int)):Option ((List Int)):=(eV k p0 0 (IntKind.i64.wrap (((p0.length:Nat):Int) - 1)))
mutual
def nK:Nat→Int→(List UInt8)→Option ((List UInt8))
 | 0,_,_=>none
 | k1+1,c0_0,c0_1=>(kX k1 c0_0 c0_1 ([]:List Int) true)
def kX:Nat→Int→(List UInt8)→(List Int)→Bool→Option ((List UInt8))
 | 0,_,_,_,_=>none
 | k2+1,w0_0,w0_1,w0_2,w0_3=>(iteS w0_3 ((bAp .rem .u64 w0_0 10).bind fun v3=>((aAt 1 w0_2 ([(IntKind.u8.wrap (IntKind.u64.wrap (48+v3)))]:List Int)).bind fun v4=>((bAp .quo .u64 w0_0 10).bind fun v5=>(kX k2 v5 w0_1 v4 (decide (0<v5)))))) ((slices_Reverse k2 w0_2).bind fun v6=>(if w0_2.length=v6.length then ((catS w0_1 (aIa v6)).bind fun v7=>(some v7)) else none)))
end
def sU (k:Nat) (p0:Int):Option ((List UInt8)):=(iteS (decide (p0<0)) (nK k (IntKind.u64.wrap (0 - (IntKind.u64.wrap p0))) ([126]:List UInt8)) (nK k (IntKind.u64.wrap p0) ([]:List UInt8)))
mutual
def lB:Nat→(List UInt8)→Int→Option (Int×(List UInt8)×Int×Int×Int×Bool)
 | 0,_,_=>none
 | k2+1,c0_0,c0_1=>((jA c0_0 c0_1 ((c0_0.length:Nat):Int)).bind fun v3=>((aBu k2 v3).bind fun v4=>(iteS (decide ((IntKind.i64.wrap (c0_1+v4))=c0_1)) (some (0,([]:List UInt8),0,0,0,false)) ((jA c0_0 (IntKind.i64.wrap (c0_1+v4)) ((c0_0.length:Nat):Int)).bind fun v5=>((uH k2 v5).bind fun v6=>(iteS (decide (0<v6)) (some (0,([]:List UInt8),0,0,0,false)) ((jA c0_0 c0_1 (IntKind.i64.wrap (c0_1+v4))).bind fun v7=>(lC k2 c0_1 (IntKind.i64.wrap (c0_1+v4)) 0 v7 0))))))))
def lC:Nat→Int→Int→Int→(List UInt8)→Int→Option (Int×(List UInt8)×Int×Int×Int×Bool)
 | 0,_,_,_,_,_=>none
 | k8+1,w0_0,w0_1,w0_2,w0_3,w0_4=>(iteS (decide ((w0_4:Int).toNat<w0_3.length)) (iteS (decide (1073741824<(IntKind.i64.wrap ((IntKind.i64.wrap (10 * w0_2))+(IntKind.i64.wrap (IntKind.i32.wrap ((((gJ w0_3 ((w0_4:Int).toNat)).1:Nat):Int) - 48))))))) (some (0,([]:List UInt8),0,0,0,false)) (lC k8 w0_0 w0_1 (IntKind.i64.wrap ((IntKind.i64.wrap (10 * w0_2))+(IntKind.i64.wrap (IntKind.i32.wrap ((((gJ w0_3 ((w0_4:Int).toNat)).1:Nat):Int) - 48))))) w0_3 (((w0_4:Int).toNat+(gJ w0_3 ((w0_4:Int).toNat)).2:Nat):Int))) (iteS (decide (w0_0=1)) ((sU k8 (IntKind.i64.wrap (0 - w0_2))).bind fun v9=>(some (2,v9,(IntKind.i64.wrap (0 - w0_2)),0,w0_1,true))) ((sU k8 w0_2).bind fun v10=>(some (2,v10,w0_2,0,w0_1,true)))))
end
def tA (k:Nat) (p0:(List UInt8)):Option (Int×(List UInt8)×Int×Int×Int×Bool):=((aU p0 0).bind fun c1=>(iteS (decide (((c1.toNat:Nat):Int)=126)) (lB k p0 1) (lB k p0 0)))
def aDg (_k:Nat):Option ((List (List UInt8))):=(some ([([58,62]:List UInt8),([61,62]:List UInt8),([45,62]:List UInt8),([35,49]:List UInt8),([35,50]:List UInt8),([40]:List UInt8),([41]:List UInt8),([123]:List UInt8),([125]:List UInt8),([44]:List UInt8),([58]:List UInt8),([61]:List UInt8),([42]:List UInt8),([43]:List UInt8),([45]:List UInt8),([60]:List UInt8),([124]:List UInt8)]:List (List UInt8)))
def mW:Nat→(List UInt8)→(List (List UInt8))→Int→Option (Int×(List UInt8)×Int×Int×Int×Bool)
 | 0,_,_,_=>none
 | k23+1,w0_0,w0_1,w0_2=>(iteS (decide (w0_2<((w0_1.length:Nat):Int))) ((aU w0_1 w0_2).bind fun v24=>((strings_HasPrefix k23 w0_0 v24).bind fun v25=>(iteS v25 (some (3,v24,0,0,((v24.length:Nat):Int),true)) (mW k23 w0_0 w0_1 (IntKind.i64.wrap (w0_2+1)))))) (some (0,([]:List UInt8),0,0,0,false)))
def qP (k:Nat) (p0:(List UInt8)):Option (Int×(List UInt8)×Int×Int×Int×Bool):=((aDh k p0).bind fun v1=>((oR k v1).bind fun v2=>(iteS (decide (v2=1)) ((aE7 k p0).bind fun (v3,v4,v5,v6,v7,v8)=>(some (v3,v4,v5,v6,v7,v8))) (iteS (decide (v2=2)) ((tA k p0).bind fun (v9,v10,v11,v12,v13,v14)=>(some (v9,v10,v11,v12,v13,v14))) ((aU p0 0).bind fun c15=>(iteS (decide (((c15.toNat:Nat):Int)=126)) ((tA k p0).bind fun (v16,v17,v18,v19,v20,v21)=>(some (v16,v17,v18,v19,v20,v21))) ((aDg k).bind fun v22=>(mW k p0 v22 0))))))))
mutual
def iL:Nat→(List UInt8)→bF→Int→Option (bF×Int×Int)
 | 0,_,_,_=>none
 | k3+1,w0_0,w0_1,w0_2=>(iteS (decide (w0_2<((w0_0.length:Nat):Int))) ((jA w0_0 w0_2 ((w0_0.length:Nat):Int)).bind fun v4=>((aAG k3 v4).bind fun v5=>(iteS (decide (0<v5)) (iL k3 w0_0 w0_1 (IntKind.i64.wrap (w0_2+v5))) ((strings_HasPrefix k3 v4 ([40,42]:List UInt8)).bind fun v6=>(iteS v6 ((aHf k3 v4).bind fun v7=>(iteS (decide (v7=0)) (some (([]:List (Int×(List UInt8)×Int×Int)),w0_2,5)) (iL k3 w0_0 w0_1 (IntKind.i64.wrap (w0_2+v7))))) ((qP k3 v4).bind fun (v8,v9,v10,v11,v12,v13)=>(iteS (!v13) (some (([]:List (Int×(List UInt8)×Int×Int)),w0_2,5)) (aB5 k3 w0_0 w0_1 w0_2 v12 v8 v9 v10 v11)))))))) (some (w0_1,0,0)))
def aB5:Nat→(List UInt8)→bF→Int→Int→Int→(List UInt8)→Int→Int→Option (bF×Int×Int)
 | 0,_,_,_,_,_,_,_,_=>none
 | k14+1,c0_0,c0_1,c0_2,c0_3,c0_4,c0_5,c0_6,_c0_7=>((aAt 40 c0_1 ([(c0_4,c0_5,c0_6,c0_2)]:List (Int×(List UInt8)×Int×Int))).bind fun v15=>(iL k14 c0_0 v15 (IntKind.i64.wrap (c0_2+c0_3))))
end
def rY (k:Nat) (p0:(List UInt8)):Option (bF×Int×Int):=((aAL k p0).bind fun (v1,v2)=>(iteS (!decide (v2=0)) (some (([]:List (Int×(List UInt8)×Int×Int)),v1,v2)) (iL k p0 ([]:List (Int×(List UInt8)×Int×Int)) 0)))
def aAk (_k:Nat) (p0:bF) (p1:Int):Option (bF×Int×Int):=(iteS (decide (p1<0)) (some (p0,0,2)) (iteS (decide (((p0.length:Nat):Int)<p1)) (some (p0,0,2)) (some (p0,p1,0))))
def aFJ (_k:Nat) (p0:bF) (p1:Int):Option (Bool):=(iteS (decide (0≤p1)) (some (decide (p1<((p0.length:Nat):Int)))) (some false))
def kT (k:Nat) (p0:bF) (p1:Int) (p2:(List UInt8)):Option (Bool):=((aFJ k p0 p1).bind fun v1=>(iteS v1 ((aU p0 p1).bind fun v2=>(iteS (decide (v2.1=3)) ((aU p0 p1).bind fun v3=>(some (decide (v3.2.1=p2)))) (some false))) (some false)))
def aQ (k:Nat) (p0:bF) (p1:Int) (p2:Int) (p3:(List UInt8)):Option (Bool×bF×Int×Int):=(iteS (!decide (p2=0)) (some (false,p0,p1,p2)) ((kT k p0 p1 p3).bind fun v1=>(iteS (!v1) (some (false,p0,p1,p2)) (some (true,p0,(IntKind.i64.wrap (p1+1)),p2)))))
def eC (k:Nat) (p0:(List UInt8)):Option (Bool):=((wF k p0).bind fun v1=>(iteS v1 ((tW k p0).bind fun v2=>(some (!v2))) (some false)))
def vW (k:Nat) (p0:bF) (p1:Int):Option ((List UInt8)×Bool):=((aFJ k p0 p1).bind fun v1=>(iteS (!v1) (some (([]:List UInt8),false)) ((aU p0 p1).bind fun v2=>(iteS (!decide (v2.1=1)) (some (([]:List UInt8),false)) ((aU p0 p1).bind fun v3=>((eC k v3.2.1).bind fun v4=>(iteS (!v4) (some (([]:List UInt8),false)) ((aU p0 p1).bind fun v5=>(some (v5.2.1,true))))))))))
def dK (_k:Nat) (p0:bF) (p1:Int) (p2:Int) (p3:Int):Option (bF×Int×Int):=(iteS (decide (p2=0)) (some (p0,p1,p3)) (some (p0,p1,p2)))
def gI (k:Nat) (p0:bF) (p1:Int) (p2:Int):Option ((List UInt8)×bF×Int×Int):=((vW k p0 p1).bind fun (v1,v2)=>(iteS (!decide (p2=0)) ((dK k p0 p1 p2 6).bind fun (v3,v4,v5)=>(some (([]:List UInt8),v3,v4,v5))) (iteS (!v2) ((dK k p0 p1 p2 6).bind fun (v6,v7,v8)=>(some (([]:List UInt8),v6,v7,v8))) (some (v1,p0,(IntKind.i64.wrap (p1+1)),p2)))))
def bO (k:Nat) (p0:bF) (p1:Int) (p2:Int):Option ((List UInt8)×bF×Int×Int):=((gI k p0 p1 p2).bind fun (v1,v2,v3,v4)=>(some (v1,v2,v3,v4)))
def qV (_k:Nat) (p0:Int) (p1:(List UInt8)):Option (Int×Int×(List UInt8)×(List UInt8)):=(some (p0,0,p1,([]:List UInt8)))
def aA6 (_k:Nat) (p0:bF) (p1:Int):Option (bF×Int×Int):=(iteS (decide (p1<0)) (some (p0,0,2)) (iteS (decide (((p0.length:Nat):Int)<p1)) (some (p0,0,2)) (some (p0,p1,0))))
def iU:Nat→Int→(List UInt8)→Int→Option (Int)
 | 0,_,_,_=>none
 | k1+1,w0_0,w0_1,w0_2=>(iteS (decide ((w0_2:Int).toNat<w0_1.length)) (iU k1 (IntKind.i64.wrap (w0_0+1)) w0_1 (((w0_2:Int).toNat+(gJ w0_1 ((w0_2:Int).toNat)).2:Nat):Int)) (some w0_0))
def utf8_RuneCountInString (k:Nat) (p0:(List UInt8)):Option (Int):=(iU k 0 p0 0)
def iM:Nat→(List UInt8)→Int→Int→Int→Option (Int×Int)
 | 0,_,_,_,_=>none
 | _k13+1,c0_0,c0_1,c0_2,c0_3=>(iteS (decide (c0_2≤2)) ((pW .and .u8 c0_1 31).bind fun v14=>((shI .shl .i32 (IntKind.i32.wrap v14) 6).bind fun v15=>((pW .and .u8 c0_3 63).bind fun v16=>((pW .or .i32 v15 (IntKind.i32.wrap v16)).bind fun v17=>(some (v17,2)))))) ((aU c0_0 2).bind fun c18=>(iteS (decide (((c18.toNat:Nat):Int)<128)) (some (65533,1)) (iteS (decide (191<((c18.toNat:Nat):Int))) (some (65533,1)) (iteS (decide (c0_2≤3)) ((pW .and .u8 c0_1 15).bind fun v19=>((shI .shl .i32 (IntKind.i32.wrap v19) 12).bind fun v20=>((pW .and .u8 c0_3 63).bind fun v21=>((shI .shl .i32 (IntKind.i32.wrap v21) 6).bind fun v22=>((pW .or .i32 v20 v22).bind fun v23=>((pW .and .u8 ((c18.toNat:Nat):Int) 63).bind fun v24=>((pW .or .i32 v23 (IntKind.i32.wrap v24)).bind fun v25=>(some (v25,3))))))))) ((aU c0_0 3).bind fun c26=>(iteS (decide (((c26.toNat:Nat):Int)<128)) (some (65533,1)) (iteS (decide (191<((c26.toNat:Nat):Int))) (some (65533,1)) ((pW .and .u8 c0_1 7).bind fun v27=>((shI .shl .i32 (IntKind.i32.wrap v27) 18).bind fun v28=>((pW .and .u8 c0_3 63).bind fun v29=>((shI .shl .i32 (IntKind.i32.wrap v29) 12).bind fun v30=>((pW .or .i32 v28 v30).bind fun v31=>((pW .and .u8 ((c18.toNat:Nat):Int) 63).bind fun v32=>((shI .shl .i32 (IntKind.i32.wrap v32) 6).bind fun v33=>((pW .or .i32 v31 v33).bind fun v34=>((pW .and .u8 ((c26.toNat:Nat):Int) 63).bind fun v35=>((pW .or .i32 v34 (IntKind.i32.wrap v35)).bind fun v36=>(some (v36,4))))))))))))))))))))
def utf8_decodeRuneInStringSlow (k:Nat) (p0:(List UInt8)):Option (Int×Int):=(iteS (decide (((p0.length:Nat):Int)<1)) (some (65533,0)) ((aU p0 0).bind fun c1=>((aU bAF ((c1.toNat:Nat):Int)).bind fun v2=>(iteS (decide (240≤v2)) ((shI .shl .i32 (IntKind.i32.wrap v2) 31).bind fun v3=>((shI .shr .i32 v3 31).bind fun v4=>((aU p0 0).bind fun c5=>((pW .andNot .i32 (IntKind.i32.wrap ((c5.toNat:Nat):Int)) v4).bind fun v6=>((pW .and .i32 65533 v4).bind fun v7=>((pW .or .i32 v6 v7).bind fun v8=>(some (v8,1)))))))) ((pW .and .u8 v2 7).bind fun v9=>((shI .shr .u8 v2 4).bind fun v10=>((aU aZE v10).bind fun v11=>(iteS (decide (((p0.length:Nat):Int)<(IntKind.i64.wrap v9))) (some (65533,1)) ((aU p0 1).bind fun c12=>(iteS (decide (((c12.toNat:Nat):Int)<v11.1)) (some (65533,1)) (iteS (decide (v11.2<((c12.toNat:Nat):Int))) (some (65533,1)) (iM k p0 ((c1.toNat:Nat):Int) (IntKind.i64.wrap v9) ((c12.toNat:Nat):Int)))))))))))))
def utf8_DecodeRuneInString (k:Nat) (p0:(List UInt8)):Option (Int×Int):=(iteS (!decide (p0=([]:List UInt8))) ((aU p0 0).bind fun c1=>(iteS (decide (((c1.toNat:Nat):Int)<128)) ((aU p0 0).bind fun c2=>(some ((IntKind.i32.wrap ((c2.toNat:Nat):Int)),1))) ((utf8_decodeRuneInStringSlow k p0).bind fun (v3,v4)=>(some (v3,v4))))) ((utf8_decodeRuneInStringSlow k p0).bind fun (v5,v6)=>(some (v5,v6))))
mutual
def lY:Nat→(List UInt8)→Int→Option ((List (List UInt8)))
 | 0,_,_=>none
 | k2+1,c0_0,c0_1=>((mkL 16 ([]:(List UInt8)) c0_1).bind fun v3=>(pB k2 c0_0 c0_1 v3 0))
def pB:Nat→(List UInt8)→Int→(List (List UInt8))→Int→Option ((List (List UInt8)))
 | 0,_,_,_,_=>none
 | k4+1,w0_0,w0_1,w0_2,w0_3=>(iteS (decide (w0_3<(IntKind.i64.wrap (w0_1 - 1)))) ((utf8_DecodeRuneInString k4 w0_0).bind fun (_v5,v6)=>((jA w0_0 0 v6).bind fun v7=>(if 0≤w0_3∧w0_3<((w0_2.length:Nat):Int) then ((aU w0_2 w0_3).bind fun _u8=>((jA w0_0 v6 ((w0_0.length:Nat):Int)).bind fun v9=>(pB k4 v9 w0_1 (w0_2.set (w0_3).toNat v7) (IntKind.i64.wrap (w0_3+1))))) else none))) (iteS (decide (0<w0_1)) (if 0≤(IntKind.i64.wrap (w0_1 - 1))∧(IntKind.i64.wrap (w0_1 - 1))<((w0_2.length:Nat):Int) then ((aU w0_2 (IntKind.i64.wrap (w0_1 - 1))).bind fun _u10=>(some (w0_2.set ((IntKind.i64.wrap (w0_1 - 1))).toNat w0_0))) else none) (some w0_2)))
end
def aDF (k:Nat) (p0:(List UInt8)) (p1:Int):Option ((List (List UInt8))):=((utf8_RuneCountInString k p0).bind fun v1=>(iteS (decide (p1<0)) (lY k p0 v1) (iteS (decide (v1<p1)) (lY k p0 v1) (lY k p0 p1))))
def strings_Count (_:Nat) (p0:List UInt8) (p1:List UInt8):Option Int:=match p1 with | [c]=>some (Lib.countByte p0 c) | _=>none
def strings_Index (_:Nat) (p0:List UInt8) (p1:List UInt8):Option Int:=match p1 with | [c]=>some (Lib.indexByte p0 c) | _=>none
mutual
def kV:Nat→(List UInt8)→(List UInt8)→Int→Int→Option ((List (List UInt8)))
 | 0,_,_,_,_=>none
 | k3+1,c0_0,c0_1,c0_2,c0_3=>((mkL 16 ([]:(List UInt8)) (if (IntKind.i64.wrap (((c0_0.length:Nat):Int)+1))<c0_3 then (IntKind.i64.wrap (((c0_0.length:Nat):Int)+1)) else c0_3)).bind fun v4=>(gA k3 c0_0 c0_1 c0_2 (IntKind.i64.wrap ((if (IntKind.i64.wrap (((c0_0.length:Nat):Int)+1))<c0_3 then (IntKind.i64.wrap (((c0_0.length:Nat):Int)+1)) else c0_3) - 1)) v4 0))
def gA:Nat→(List UInt8)→(List UInt8)→Int→Int→(List (List UInt8))→Int→Option ((List (List UInt8)))
 | 0,_,_,_,_,_,_=>none
 | k5+1,w0_0,w0_1,w0_2,w0_3,w0_4,w0_5=>(iteS (decide (w0_5<w0_3)) ((strings_Index k5 w0_0 w0_1).bind fun v6=>(iteS (decide (v6<0)) (if 0≤w0_5∧w0_5<((w0_4.length:Nat):Int) then ((aU w0_4 w0_5).bind fun _u7=>((jA (w0_4.set (w0_5).toNat w0_0) 0 (IntKind.i64.wrap (w0_5+1))).bind fun v8=>(some v8))) else none) ((jA w0_0 0 (IntKind.i64.wrap (v6+w0_2))).bind fun v9=>(if 0≤w0_5∧w0_5<((w0_4.length:Nat):Int) then ((aU w0_4 w0_5).bind fun _u10=>((jA w0_0 (IntKind.i64.wrap (v6+((w0_1.length:Nat):Int))) ((w0_0.length:Nat):Int)).bind fun v11=>(gA k5 v11 w0_1 w0_2 w0_3 (w0_4.set (w0_5).toNat v9) (IntKind.i64.wrap (w0_5+1))))) else none)))) (if 0≤w0_5∧w0_5<((w0_4.length:Nat):Int) then ((aU w0_4 w0_5).bind fun _u12=>((jA (w0_4.set (w0_5).toNat w0_0) 0 (IntKind.i64.wrap (w0_5+1))).bind fun v13=>(some v13))) else none))
end
def strings_genSplit (k:Nat) (p0:(List UInt8)) (p1:(List UInt8)) (p2:Int) (p3:Int):Option ((List (List UInt8))):=(iteS (decide (p3=0)) (some ([]:List (List UInt8))) (iteS (decide (p1=([]:List UInt8))) ((aDF k p0 p3).bind fun v1=>(some v1)) (iteS (decide (p3<0)) ((strings_Count k p0 p1).bind fun v2=>(kV k p0 p1 p2 (IntKind.i64.wrap (v2+1)))) (kV k p0 p1 p2 p3))))
def strings_Split (k:Nat) (p0:(List UInt8)) (p1:(List UInt8)):Option ((List (List UInt8))):=((strings_genSplit k p0 p1 0 (-1)).bind fun v1=>(some v1))
def aBO (k:Nat) (p0:(List UInt8)):Option (Bool):=((eC k p0).bind fun v1=>(some (!v1)))
def cJ:Nat→(List (List UInt8))→Int→Option (Int)
 | 0,_,_=>none
 | k1+1,w0_0,w0_1=>(iteS (decide (w0_1<((w0_0.length:Nat):Int))) ((aU w0_0 w0_1).bind fun v2=>((aBO k1 v2).bind fun v3=>(iteS v3 (some w0_1) (cJ k1 w0_0 (IntKind.i64.wrap (w0_1+1)))))) (some (-1)))
def uG (k:Nat) (p0:(List (List UInt8))):Option (Int):=(cJ k p0 0)
def pU (k:Nat) (p0:(List (List UInt8))):Option (Bool):=((uG k p0).bind fun v1=>(some (decide (0≤v1))))
def lR (k:Nat) (p0:(List UInt8)):Option (Bool):=(iteS (decide (((p0.length:Nat):Int)≤128)) ((strings_Split k p0 ([46]:List UInt8)).bind fun v1=>((pU k v1).bind fun v2=>(some (!v2)))) (some false))
def aAF (k:Nat) (p0:bF) (p1:Int):Option ((List UInt8)×Bool):=((aFJ k p0 p1).bind fun v1=>(iteS (!v1) (some (([]:List UInt8),false)) ((aU p0 p1).bind fun v2=>(iteS (!decide (v2.1=1)) (some (([]:List UInt8),false)) ((aU p0 p1).bind fun v3=>((lR k v3.2.1).bind fun v4=>(iteS (!v4) (some (([]:List UInt8),false)) ((aU p0 p1).bind fun v5=>(some (v5.2.1,true))))))))))
def pJ (_k:Nat) (p0:Int) (p1:(List UInt8)) (p2:(List Tr)):Option (Tr):=(some (.node p0 0 p1 ([]:List UInt8) p2))
def bK (k:Nat) (p0:bF) (p1:Int) (p2:Int) (p3:(List UInt8)):Option (Bool×bF×Int×Int):=(iteS (!decide (p2=0)) (some (false,p0,p1,p2)) ((kT k p0 p1 p3).bind fun v1=>(iteS (!v1) (some (false,p0,p1,p2)) (some (true,p0,(IntKind.i64.wrap (p1+1)),p2)))))
def cN (_k:Nat) (p0:bF) (p1:Int) (p2:Int) (p3:Int):Option (bF×Int×Int):=(iteS (decide (p2=0)) (some (p0,p1,p3)) (some (p0,p1,p2)))
def dM (k:Nat) (p0:bF) (p1:Int) (p2:Int) (p3:(List UInt8)):Option (bF×Int×Int):=((bK k p0 p1 p2 p3).bind fun (v1,v2,v3,v4)=>(iteS (!v1) ((cN k v2 v3 v4 6).bind fun (v5,v6,v7)=>(some (v5,v6,v7))) (some (v2,v3,v4))))
def fA (k:Nat) (p0:bF) (p1:Int) (p2:Int):Option ((List UInt8)×bF×Int×Int):=((vW k p0 p1).bind fun (v1,v2)=>(iteS (!decide (p2=0)) ((cN k p0 p1 p2 6).bind fun (v3,v4,v5)=>(some (([]:List UInt8),v3,v4,v5))) (iteS (!v2) ((cN k p0 p1 p2 6).bind fun (v6,v7,v8)=>(some (([]:List UInt8),v6,v7,v8))) (some (v1,p0,(IntKind.i64.wrap (p1+1)),p2)))))
mutual
def iG:Nat→bF→Int→Int→Tr→(List UInt8)→Int→Option (Tr×bF×Int×Int)
 | 0,_,_,_,_,_,_=>none
 | k+1,p0,p1,p2,p3,p4,p5=>((bK k p0 p1 p2 p4).bind fun (v1,v2,v3,v4)=>(iteS (!v1) (some (p3,v2,v3,v4)) ((bP k v2 v3 v4).bind fun (v5,v6,v7,v8)=>((pJ k p5 ([]:List UInt8) ([p3,v5]:List Tr)).bind fun v9=>(some (v9,v6,v7,v8))))))
def kE:Nat→bF→Int→Int→Tr→(List UInt8)→Int→Option (Tr×bF×Int×Int)
 | 0,_,_,_,_,_,_=>none
 | k+1,p0,p1,p2,p3,p4,p5=>((bK k p0 p1 p2 p4).bind fun (v1,v2,v3,v4)=>(iteS (!v1) (some (p3,v2,v3,v4)) ((bN k v2 v3 v4).bind fun (v5,v6,v7,v8)=>((pJ k p5 ([]:List UInt8) ([p3,v5]:List Tr)).bind fun v9=>(some (v9,v6,v7,v8))))))
def eY:Nat→bF→Int→Int→Option ((List Tr)×bF×Int×Int)
 | 0,_,_,_=>none
 | k+1,p0,p1,p2=>(dE k ([]:List Tr) p0 p1 p2 ([]:List ((List UInt8)×Bool)))
def dE:Nat→(List Tr)→bF→Int→Int→(List ((List UInt8)×Bool))→Option ((List Tr)×bF×Int×Int)
 | 0,_,_,_,_,_=>none
 | k1+1,w0_0,w0_1,w0_2,w0_3,w0_4=>(iteS (decide (w0_3=0)) ((fA k1 w0_1 w0_2 w0_3).bind fun (v2,v3,v4,v5)=>(iteS (decide (v5=0)) (iteS ((jD w0_4 v2).getD false) ((cN k1 v3 w0_2 v5 9).bind fun (v6,v7,v8)=>(bV k1 w0_0 v2 v6 v7 v8 w0_4)) (bV k1 w0_0 v2 v3 v4 v5 w0_4)) (bV k1 w0_0 v2 v3 v4 v5 w0_4))) (some (w0_0,w0_1,w0_2,w0_3)))
def bV:Nat→(List Tr)→(List UInt8)→bF→Int→Int→(List ((List UInt8)×Bool))→Option ((List Tr)×bF×Int×Int)
 | 0,_,_,_,_,_,_=>none
 | k9+1,c0_0,c0_1,c0_2,c0_3,c0_4,c0_5=>((dM k9 c0_2 c0_3 c0_4 ([111,102]:List UInt8)).bind fun (v10,v11,v12)=>((bP k9 v10 v11 v12).bind fun (v13,v14,v15,v16)=>((pJ k9 8 c0_1 ([v13]:List Tr)).bind fun v17=>((aAt 8 c0_0 ([v17]:List Tr)).bind fun v18=>((bK k9 v14 v15 v16 ([124]:List UInt8)).bind fun (v19,v20,v21,v22)=>(iteS (!v19) (some (v18,v20,v21,v22)) (dE k9 v18 v20 v21 v22 (aEE c0_5 c0_1 true))))))))
def bS:Nat→bF→Int→Int→Option (Tr×bF×Int×Int)
 | 0,_,_,_=>none
 | k+1,p0,p1,p2=>(iteS (!decide (p2=0)) (some (.nil,p0,p1,p2)) ((aAF k p0 p1).bind fun (v1,v2)=>(iteS v2 ((pJ k 4 v1 ([]:List Tr)).bind fun v3=>(some (v3,p0,(IntKind.i64.wrap (p1+1)),p2))) ((bK k p0 p1 p2 ([105,110,116]:List UInt8)).bind fun (v4,v5,v6,v7)=>(iteS v4 ((pJ k 1 ([]:List UInt8) ([]:List Tr)).bind fun v8=>(some (v8,v5,v6,v7))) ((bK k v5 v6 v7 ([98,111,111,108]:List UInt8)).bind fun (v9,v10,v11,v12)=>(iteS v9 ((pJ k 2 ([]:List UInt8) ([]:List Tr)).bind fun v13=>(some (v13,v10,v11,v12))) ((bK k v10 v11 v12 ([117,110,105,116]:List UInt8)).bind fun (v14,v15,v16,v17)=>(iteS v14 ((pJ k 3 ([]:List UInt8) ([]:List Tr)).bind fun v18=>(some (v18,v15,v16,v17))) ((bK k v15 v16 v17 ([40]:List UInt8)).bind fun (v19,v20,v21,v22)=>(iteS v19 ((bP k v20 v21 v22).bind fun (v23,v24,v25,v26)=>((dM k v24 v25 v26 ([41]:List UInt8)).bind fun (v27,v28,v29)=>(some (v23,v27,v28,v29)))) ((bK k v20 v21 v22 ([109,117]:List UInt8)).bind fun (v30,v31,v32,v33)=>(iteS v30 ((fA k v31 v32 v33).bind fun (v34,v35,v36,v37)=>(cC k v34 v35 v36 v37)) ((cN k v31 v32 v33 6).bind fun (v50,v51,v52)=>(some (.nil,v50,v51,v52))))))))))))))))
def cC:Nat→(List UInt8)→bF→Int→Int→Option (Tr×bF×Int×Int)
 | 0,_,_,_,_=>none
 | k38+1,c0_0,c0_1,c0_2,c0_3=>((dM k38 c0_1 c0_2 c0_3 ([123]:List UInt8)).bind fun (v39,v40,v41)=>((eY k38 v39 v40 v41).bind fun (v42,v43,v44,v45)=>((dM k38 v43 v44 v45 ([125]:List UInt8)).bind fun (v46,v47,v48)=>((pJ k38 7 c0_0 v42).bind fun v49=>(some (v49,v46,v47,v48))))))
def bN:Nat→bF→Int→Int→Option (Tr×bF×Int×Int)
 | 0,_,_,_=>none
 | k+1,p0,p1,p2=>((bS k p0 p1 p2).bind fun (v1,v2,v3,v4)=>((kE k v2 v3 v4 v1 ([42]:List UInt8) 6).bind fun (v5,v6,v7,v8)=>(some (v5,v6,v7,v8))))
def bP:Nat→bF→Int→Int→Option (Tr×bF×Int×Int)
 | 0,_,_,_=>none
 | k+1,p0,p1,p2=>((bN k p0 p1 p2).bind fun (v1,v2,v3,v4)=>((iG k v2 v3 v4 v1 ([45,62]:List UInt8) 5).bind fun (v5,v6,v7,v8)=>(some (v5,v6,v7,v8))))
end
def aCu (k:Nat) (p0:bF) (p1:Int):Option (Tr×Int×Int):=((aA6 k p0 p1).bind fun (v1,v2,v3)=>((bP k v1 v2 v3).bind fun (v4,_v5,v6,v7)=>(iteS (!decide (v7=0)) (some (.nil,v6,v7)) (some (v4,v6,0)))))
def gC (k:Nat) (p0:bF) (p1:Int) (p2:Int):Option (Tr×bF×Int×Int):=(iteS (!decide (p2=0)) (some (.nil,p0,p1,p2)) ((aCu k p0 p1).bind fun (v1,v2,v3)=>((dK k p0 v2 p2 v3).bind fun (v4,v5,v6)=>(some (v1,v4,v5,v6)))))
def iK (k:Nat) (p0:bF) (p1:Int) (p2:Int):Option (Tr×bF×Int×Int):=((gC k p0 p1 p2).bind fun (v1,v2,v3,v4)=>(some (v1,v2,v3,v4)))
def cZ:Nat→(List (List UInt8))→Int→bF→Int→Int→Option (bF×Int×Int)
 | 0,_,_,_,_,_=>none
 | k1+1,w0_0,w0_1,w0_2,w0_3,w0_4=>(iteS (decide (w0_1<((w0_0.length:Nat):Int))) ((aU w0_0 w0_1).bind fun v2=>((aQ k1 w0_2 w0_3 w0_4 v2).bind fun (v3,v4,v5,v6)=>(iteS (!v3) ((dK k1 v4 v5 v6 6).bind fun (v7,v8,v9)=>(cZ k1 w0_0 (IntKind.i64.wrap (w0_1+1)) v7 v8 v9)) (cZ k1 w0_0 (IntKind.i64.wrap (w0_1+1)) v4 v5 v6)))) (some (w0_2,w0_3,w0_4)))
def bC (k:Nat) (p0:bF) (p1:Int) (p2:Int) (p3:(List (List UInt8))):Option (bF×Int×Int):=(cZ k p3 0 p0 p1 p2)
def bG (k:Nat) (p0:bF) (p1:Int) (p2:Int) (p3:(List UInt8)):Option (Bool×bF×Int×Int):=(iteS (!decide (p2=0)) (some (false,p0,p1,p2)) ((kT k p0 p1 p3).bind fun v1=>(iteS (!v1) (some (false,p0,p1,p2)) (some (true,p0,(IntKind.i64.wrap (p1+1)),p2)))))
def eJ (_k:Nat) (p0:bF) (p1:Int) (p2:Int) (p3:Int):Option (bF×Int×Int):=(iteS (decide (p2=0)) (some (p0,p1,p3)) (some (p0,p1,p2)))
def cE:Nat→(List (List UInt8))→Int→bF→Int→Int→Option (bF×Int×Int)
 | 0,_,_,_,_,_=>none
 | k1+1,w0_0,w0_1,w0_2,w0_3,w0_4=>(iteS (decide (w0_1<((w0_0.length:Nat):Int))) ((aU w0_0 w0_1).bind fun v2=>((bG k1 w0_2 w0_3 w0_4 v2).bind fun (v3,v4,v5,v6)=>(iteS (!v3) ((eJ k1 v4 v5 v6 6).bind fun (v7,v8,v9)=>(cE k1 w0_0 (IntKind.i64.wrap (w0_1+1)) v7 v8 v9)) (cE k1 w0_0 (IntKind.i64.wrap (w0_1+1)) v4 v5 v6)))) (some (w0_2,w0_3,w0_4)))
def aY (k:Nat) (p0:bF) (p1:Int) (p2:Int) (p3:(List (List UInt8))):Option (bF×Int×Int):=(cE k p3 0 p0 p1 p2)
def eX (k:Nat) (p0:bF) (p1:Int) (p2:Int):Option ((List UInt8)×bF×Int×Int):=((vW k p0 p1).bind fun (v1,v2)=>(iteS (!decide (p2=0)) ((eJ k p0 p1 p2 6).bind fun (v3,v4,v5)=>(some (([]:List UInt8),v3,v4,v5))) (iteS (!v2) ((eJ k p0 p1 p2 6).bind fun (v6,v7,v8)=>(some (([]:List UInt8),v6,v7,v8))) (some (v1,p0,(IntKind.i64.wrap (p1+1)),p2)))))
def iO (k:Nat) (p0:bF) (p1:Int) (p2:Int):Option (Tr×bF×Int×Int):=(iteS (!decide (p2=0)) (some (.nil,p0,p1,p2)) ((aCu k p0 p1).bind fun (v1,v2,v3)=>((eJ k p0 v2 p2 v3).bind fun (v4,v5,v6)=>(some (v1,v4,v5,v6)))))
def jX (_k:Nat) (p0:Int) (p1:(List UInt8)) (p2:(List Tr)):Option (Tr):=(some (.node p0 0 p1 ([]:List UInt8) p2))
def xR (_k:Nat) (p0:Int) (_p1:(List UInt8)) (p2:Int) (_p3:Int):Option (Bool):=(iteS (decide (p0=2)) (iteS (decide ((-1073741824)≤p2)) (some (decide (p2≤1073741824))) (some false)) (some false))
def fX (k:Nat) (p0:bF) (p1:Int) (p2:Int):Option (Bool×bF×Int×Int):=(iteS (!decide (p2=0)) (some (false,p0,p1,p2)) (iteS (decide (((p0.length:Nat):Int)≤p1)) (some (false,p0,p1,p2)) ((kT k p0 p1 ([116,114,117,101]:List UInt8)).bind fun v1=>(iteS v1 (some (true,p0,p1,p2)) ((kT k p0 p1 ([102,97,108,115,101]:List UInt8)).bind fun v2=>(iteS v2 (some (true,p0,p1,p2)) ((kT k p0 p1 ([40]:List UInt8)).bind fun v3=>(iteS v3 (some (true,p0,p1,p2)) ((kT k p0 p1 ([35,49]:List UInt8)).bind fun v4=>(iteS v4 (some (true,p0,p1,p2)) ((kT k p0 p1 ([35,50]:List UInt8)).bind fun v5=>(iteS v5 (some (true,p0,p1,p2)) ((aAF k p0 p1).bind fun (_v6,v7)=>(iteS v7 (some (true,p0,p1,p2)) ((aU p0 p1).bind fun v8=>((xR k v8.1 v8.2.1 v8.2.2.1 v8.2.2.2).bind fun v9=>(some (v9,p0,p1,p2))))))))))))))))))
def aBJ (_k:Nat) (p0:Int) (p1:Tr) (p2:Tr):Option (Tr):=(some (.node 31 p0 ([]:List UInt8) ([]:List UInt8) ([p1,p2]:List Tr)))
mutual
def bY:Nat→bF→Int→Int→Option (Tr×bF×Int×Int)
 | 0,_,_,_=>none
 | k+1,p0,p1,p2=>((fX k p0 p1 p2).bind fun (v1,v2,v3,v4)=>(iteS (!v1) ((eJ k v2 v3 v4 6).bind fun (v5,v6,v7)=>(some (.nil,v5,v6,v7))) ((aU v2 v3).bind fun v8=>(iteS (decide (v8.1=2)) (some ((.node 20 v8.2.2.1 ([]:List UInt8) ([]:List UInt8) ([]:List Tr)),v2,(IntKind.i64.wrap (v3+1)),v4)) (iteS (decide (v8.1=1)) ((jX k 23 v8.2.1 ([]:List Tr)).bind fun v9=>(some (v9,v2,(IntKind.i64.wrap (v3+1)),v4))) (iteS (decide (v8.2.1=([116,114,117,101]:List UInt8))) (some ((.node 21 1 ([]:List UInt8) ([]:List UInt8) ([]:List Tr)),v2,(IntKind.i64.wrap (v3+1)),v4)) (iteS (decide (v8.2.1=([102,97,108,115,101]:List UInt8))) ((jX k 21 ([]:List UInt8) ([]:List Tr)).bind fun v10=>(some (v10,v2,(IntKind.i64.wrap (v3+1)),v4))) (iteS (decide (v8.2.1=([35,49]:List UInt8))) ((bY k v2 (IntKind.i64.wrap (v3+1)) v4).bind fun (v11,v12,v13,v14)=>((jX k 27 ([]:List UInt8) ([v11]:List Tr)).bind fun v15=>(some (v15,v12,v13,v14)))) (iteS (decide (v8.2.1=([35,50]:List UInt8))) ((bY k v2 (IntKind.i64.wrap (v3+1)) v4).bind fun (v16,v17,v18,v19)=>((jX k 28 ([]:List UInt8) ([v16]:List Tr)).bind fun v20=>(some (v20,v17,v18,v19)))) (mX k v2 (IntKind.i64.wrap (v3+1)) v4))))))))))
def mX:Nat→bF→Int→Int→Option (Tr×bF×Int×Int)
 | 0,_,_,_=>none
 | k21+1,c0_0,c0_1,c0_2=>((bG k21 c0_0 c0_1 c0_2 ([41]:List UInt8)).bind fun (v22,v23,v24,v25)=>(iteS v22 ((jX k21 22 ([]:List UInt8) ([]:List Tr)).bind fun v26=>(some (v26,v23,v24,v25))) ((aW k21 v23 v24 v25).bind fun (v27,v28,v29,v30)=>((bG k21 v28 v29 v30 ([44]:List UInt8)).bind fun (v31,v32,v33,v34)=>(iteS v31 ((aW k21 v32 v33 v34).bind fun (v35,v36,v37,v38)=>((jX k21 26 ([]:List UInt8) ([v27,v35]:List Tr)).bind fun v39=>((aY k21 v36 v37 v38 ([([41]:List UInt8)]:List (List UInt8))).bind fun (v40,v41,v42)=>(some (v39,v40,v41,v42))))) ((aY k21 v32 v33 v34 ([([41]:List UInt8)]:List (List UInt8))).bind fun (v43,v44,v45)=>(some (v27,v43,v44,v45))))))))
def dV:Nat→bF→Int→Int→Option (Tr×bF×Int×Int)
 | 0,_,_,_=>none
 | k+1,p0,p1,p2=>((bY k p0 p1 p2).bind fun (v1,v2,v3,v4)=>(dA k v1 v2 v3 v4))
def dA:Nat→Tr→bF→Int→Int→Option (Tr×bF×Int×Int)
 | 0,_,_,_,_=>none
 | k5+1,w0_0,w0_1,w0_2,w0_3=>((fX k5 w0_1 w0_2 w0_3).bind fun (v6,v7,v8,v9)=>(iteS v6 ((bY k5 v7 v8 v9).bind fun (v10,v11,v12,v13)=>((jX k5 25 ([]:List UInt8) ([w0_0,v10]:List Tr)).bind fun v14=>(dA k5 v14 v11 v12 v13))) (some (w0_0,v7,v8,v9))))
def iD:Nat→bF→Int→Int→(List UInt8)→(List Int)→Option (Tr×bF×Int×Int)
 | 0,_,_,_,_,_=>none
 | k+1,p0,p1,p2,p3,p4=>((dV k p0 p1 p2).bind fun (v1,v2,v3,v4)=>(bA k p3 p4 v1 v2 v3 v4))
def bA:Nat→(List UInt8)→(List Int)→Tr→bF→Int→Int→Option (Tr×bF×Int×Int)
 | 0,_,_,_,_,_,_=>none
 | k5+1,w0_0,w0_1,w0_2,w0_3,w0_4,w0_5=>(dI k5 w0_0 w0_1 w0_2 0 w0_3 w0_4 w0_5)
def dI:Nat→(List UInt8)→(List Int)→Tr→Int→bF→Int→Int→Option (Tr×bF×Int×Int)
 | 0,_,_,_,_,_,_,_=>none
 | k6+1,w1_0,w1_1,w1_2,w1_3,w1_4,w1_5,w1_6=>(iteS (decide (w1_3<((w1_1.length:Nat):Int))) ((jA w1_0 w1_3 (IntKind.i64.wrap (w1_3+1))).bind fun v7=>((bG k6 w1_4 w1_5 w1_6 v7).bind fun (v8,v9,v10,v11)=>(iteS (!v8) (dI k6 w1_0 w1_1 w1_2 (IntKind.i64.wrap (w1_3+1)) v9 v10 v11) (iteS (decide (w1_3=((w1_1.length:Nat):Int))) (some (w1_2,v9,v10,v11)) ((aU w1_1 w1_3).bind fun v12=>((dV k6 v9 v10 v11).bind fun (v13,v14,v15,v16)=>((aBJ k6 v12 w1_2 v13).bind fun v17=>(bA k6 w1_0 w1_1 v17 v14 v15 v16)))))))) (iteS (decide (w1_3=((w1_1.length:Nat):Int))) (some (w1_2,w1_4,w1_5,w1_6)) ((aU w1_1 w1_3).bind fun v18=>((dV k6 w1_4 w1_5 w1_6).bind fun (v19,v20,v21,v22)=>((aBJ k6 v18 w1_2 v19).bind fun v23=>(bA k6 w1_0 w1_1 v23 v20 v21 v22))))))
def dL:Nat→bF→Int→Int→Option (Tr×bF×Int×Int)
 | 0,_,_,_=>none
 | k+1,p0,p1,p2=>((iD k p0 p1 p2 ([42]:List UInt8) ([3]:List Int)).bind fun (v1,v2,v3,v4)=>(some (v1,v2,v3,v4)))
def kA:Nat→bF→Int→Int→(List UInt8)→(List Int)→Option (Tr×bF×Int×Int)
 | 0,_,_,_,_,_=>none
 | k+1,p0,p1,p2,p3,p4=>((dL k p0 p1 p2).bind fun (v1,v2,v3,v4)=>(bH k p3 p4 v1 v2 v3 v4))
def bH:Nat→(List UInt8)→(List Int)→Tr→bF→Int→Int→Option (Tr×bF×Int×Int)
 | 0,_,_,_,_,_,_=>none
 | k5+1,w0_0,w0_1,w0_2,w0_3,w0_4,w0_5=>(cK k5 w0_0 w0_1 w0_2 0 w0_3 w0_4 w0_5)
def cK:Nat→(List UInt8)→(List Int)→Tr→Int→bF→Int→Int→Option (Tr×bF×Int×Int)
 | 0,_,_,_,_,_,_,_=>none
 | k6+1,w1_0,w1_1,w1_2,w1_3,w1_4,w1_5,w1_6=>(iteS (decide (w1_3<((w1_1.length:Nat):Int))) ((jA w1_0 w1_3 (IntKind.i64.wrap (w1_3+1))).bind fun v7=>((bG k6 w1_4 w1_5 w1_6 v7).bind fun (v8,v9,v10,v11)=>(iteS (!v8) (cK k6 w1_0 w1_1 w1_2 (IntKind.i64.wrap (w1_3+1)) v9 v10 v11) (iteS (decide (w1_3=((w1_1.length:Nat):Int))) (some (w1_2,v9,v10,v11)) ((aU w1_1 w1_3).bind fun v12=>((dL k6 v9 v10 v11).bind fun (v13,v14,v15,v16)=>((aBJ k6 v12 w1_2 v13).bind fun v17=>(bH k6 w1_0 w1_1 v17 v14 v15 v16)))))))) (iteS (decide (w1_3=((w1_1.length:Nat):Int))) (some (w1_2,w1_4,w1_5,w1_6)) ((aU w1_1 w1_3).bind fun v18=>((dL k6 w1_4 w1_5 w1_6).bind fun (v19,v20,v21,v22)=>((aBJ k6 v18 w1_2 v19).bind fun v23=>(bH k6 w1_0 w1_1 v23 v20 v21 v22))))))
def eH:Nat→bF→Int→Int→Option (Tr×bF×Int×Int)
 | 0,_,_,_=>none
 | k+1,p0,p1,p2=>((kA k p0 p1 p2 ([43,45]:List UInt8) ([1,2]:List Int)).bind fun (v1,v2,v3,v4)=>(some (v1,v2,v3,v4)))
def fS:Nat→bF→Int→Int→Option (Tr×bF×Int×Int)
 | 0,_,_,_=>none
 | k+1,p0,p1,p2=>((eH k p0 p1 p2).bind fun (v1,v2,v3,v4)=>((bG k v2 v3 v4 ([61]:List UInt8)).bind fun (v5,v6,v7,v8)=>(iteS v5 ((eH k v6 v7 v8).bind fun (v9,v10,v11,v12)=>((aBJ k 4 v1 v9).bind fun v13=>(some (v13,v10,v11,v12)))) ((bG k v6 v7 v8 ([60]:List UInt8)).bind fun (v14,v15,v16,v17)=>(iteS v14 ((eH k v15 v16 v17).bind fun (v18,v19,v20,v21)=>((aBJ k 5 v1 v18).bind fun v22=>(some (v22,v19,v20,v21)))) (some (v1,v15,v16,v17)))))))
def gY:Nat→bF→Int→Int→Option ((List Tr)×bF×Int×Int)
 | 0,_,_,_=>none
 | k+1,p0,p1,p2=>(dU k ([]:List Tr) p0 p1 p2)
def dU:Nat→(List Tr)→bF→Int→Int→Option ((List Tr)×bF×Int×Int)
 | 0,_,_,_,_=>none
 | k1+1,w0_0,w0_1,w0_2,w0_3=>(iteS (decide (w0_3=0)) ((eX k1 w0_1 w0_2 w0_3).bind fun (v2,v3,v4,v5)=>((eX k1 v3 v4 v5).bind fun (v6,v7,v8,v9)=>((aY k1 v7 v8 v9 ([([61,62]:List UInt8)]:List (List UInt8))).bind fun (v10,v11,v12)=>((aW k1 v10 v11 v12).bind fun (v13,v14,v15,v16)=>((aAt 8 w0_0 ([(.node 34 0 v2 v6 ([v13]:List Tr))]:List Tr)).bind fun v17=>((bG k1 v14 v15 v16 ([124]:List UInt8)).bind fun (v18,v19,v20,v21)=>(iteS (!v18) ((aY k1 v19 v20 v21 ([([101,110,100]:List UInt8)]:List (List UInt8))).bind fun (v22,v23,v24)=>(some (v17,v22,v23,v24))) (dU k1 v17 v19 v20 v21)))))))) ((aY k1 w0_1 w0_2 w0_3 ([([101,110,100]:List UInt8)]:List (List UInt8))).bind fun (v25,v26,v27)=>(some (w0_0,v25,v26,v27))))
def aW:Nat→bF→Int→Int→Option (Tr×bF×Int×Int)
 | 0,_,_,_=>none
 | k+1,p0,p1,p2=>((bG k p0 p1 p2 ([102,110]:List UInt8)).bind fun (v1,v2,v3,v4)=>(iteS v1 ((aY k v2 v3 v4 ([([40]:List UInt8)]:List (List UInt8))).bind fun (v5,v6,v7)=>((eX k v5 v6 v7).bind fun (v8,v9,v10,v11)=>((aY k v9 v10 v11 ([([58]:List UInt8)]:List (List UInt8))).bind fun (v12,v13,v14)=>((iO k v12 v13 v14).bind fun (v15,v16,v17,v18)=>((aY k v16 v17 v18 ([([41]:List UInt8),([61,62]:List UInt8)]:List (List UInt8))).bind fun (v19,v20,v21)=>((aW k v19 v20 v21).bind fun (v22,v23,v24,v25)=>((jX k 24 v8 ([v15,v22]:List Tr)).bind fun v26=>(some (v26,v23,v24,v25))))))))) ((bG k v2 v3 v4 ([108,101,116]:List UInt8)).bind fun (v27,v28,v29,v30)=>(iteS v27 ((eX k v28 v29 v30).bind fun (v31,v32,v33,v34)=>((aY k v32 v33 v34 ([([61]:List UInt8)]:List (List UInt8))).bind fun (v35,v36,v37)=>((aW k v35 v36 v37).bind fun (v38,v39,v40,v41)=>((aY k v39 v40 v41 ([([105,110]:List UInt8)]:List (List UInt8))).bind fun (v42,v43,v44)=>((aW k v42 v43 v44).bind fun (v45,v46,v47,v48)=>((aY k v46 v47 v48 ([([101,110,100]:List UInt8)]:List (List UInt8))).bind fun (v49,v50,v51)=>((jX k 29 v31 ([v38,v45]:List Tr)).bind fun v52=>(some (v52,v49,v50,v51))))))))) ((bG k v28 v29 v30 ([105,102]:List UInt8)).bind fun (v53,v54,v55,v56)=>(iteS v53 ((aW k v54 v55 v56).bind fun (v57,v58,v59,v60)=>((aY k v58 v59 v60 ([([116,104,101,110]:List UInt8)]:List (List UInt8))).bind fun (v61,v62,v63)=>((aW k v61 v62 v63).bind fun (v64,v65,v66,v67)=>((aY k v65 v66 v67 ([([101,108,115,101]:List UInt8)]:List (List UInt8))).bind fun (v68,v69,v70)=>((aW k v68 v69 v70).bind fun (v71,v72,v73,v74)=>((jX k 30 ([]:List UInt8) ([v57,v64,v71]:List Tr)).bind fun v75=>(some (v75,v72,v73,v74)))))))) ((bG k v54 v55 v56 ([99,97,115,101]:List UInt8)).bind fun (v76,v77,v78,v79)=>(iteS v76 ((aW k v77 v78 v79).bind fun (v80,v81,v82,v83)=>((aY k v81 v82 v83 ([([111,102]:List UInt8)]:List (List UInt8))).bind fun (v84,v85,v86)=>((gY k v84 v85 v86).bind fun (v87,v88,v89,v90)=>((aAt 8 ([v80]:List Tr) v87).bind fun v91=>((jX k 32 ([]:List UInt8) v91).bind fun v92=>(some (v92,v88,v89,v90))))))) ((bG k v77 v78 v79 ([102,111,108,100]:List UInt8)).bind fun (v93,v94,v95,v96)=>(iteS v93 ((aW k v94 v95 v96).bind fun (v97,v98,v99,v100)=>((aY k v98 v99 v100 ([([116,111]:List UInt8)]:List (List UInt8))).bind fun (v101,v102,v103)=>((iO k v101 v102 v103).bind fun (v104,v105,v106,v107)=>((aY k v105 v106 v107 ([([111,102]:List UInt8)]:List (List UInt8))).bind fun (v108,v109,v110)=>((gY k v108 v109 v110).bind fun (v111,v112,v113,v114)=>((aAt 8 ([v97,v104]:List Tr) v111).bind fun v115=>((jX k 33 ([]:List UInt8) v115).bind fun v116=>(some (v116,v112,v113,v114))))))))) ((fS k v94 v95 v96).bind fun (v117,v118,v119,v120)=>(some (v117,v118,v119,v120)))))))))))))
end
def aFA (k:Nat) (p0:bF) (p1:Int):Option (Tr×Int×Int):=(iteS (decide (p1<0)) (some (.nil,0,2)) (iteS (decide (((p0.length:Nat):Int)<p1)) (some (.nil,0,2)) ((aW k p0 p1 0).bind fun (v1,_v2,v3,v4)=>(iteS (!decide (v4=0)) (some (.nil,v3,v4)) (some (v1,v3,0))))))
def gP (k:Nat) (p0:bF) (p1:Int) (p2:Int):Option (Tr×bF×Int×Int):=(iteS (!decide (p2=0)) (some (.nil,p0,p1,p2)) ((aFA k p0 p1).bind fun (v1,v2,v3)=>((dK k p0 v2 p2 v3).bind fun (v4,v5,v6)=>(some (v1,v4,v5,v6)))))
def lW (k:Nat) (p0:bF) (p1:Int) (p2:Int):Option (Tr×bF×Int×Int):=((gP k p0 p1 p2).bind fun (v1,v2,v3,v4)=>(some (v1,v2,v3,v4)))
def eU (k:Nat) (p0:bF) (p1:Int) (p2:Int) (p3:(List UInt8)):Option (Tr×bF×Int×Int):=((bC k p0 p1 p2 ([p3]:List (List UInt8))).bind fun (v1,v2,v3)=>((lW k v1 v2 v3).bind fun (v4,v5,v6,v7)=>(some (v4,v5,v6,v7))))
def eK (k:Nat) (p0:bF) (p1:Int) (p2:Int) (p3:(List UInt8)):Option (Tr×bF×Int×Int):=((bC k p0 p1 p2 ([p3]:List (List UInt8))).bind fun (v1,v2,v3)=>((iK k v1 v2 v3).bind fun (v4,v5,v6,v7)=>(some (v4,v5,v6,v7))))
def fR (_k:Nat) (p0:Int) (p1:(List UInt8)) (p2:(List Tr)):Option (Tr):=(some (.node p0 0 p1 ([]:List UInt8) p2))
def aEM (k:Nat) (p0:bF) (p1:Int):Option ((List Tr)×Int×Int):=((aA6 k p0 p1).bind fun (v1,v2,v3)=>((eY k v1 v2 v3).bind fun (v4,_v5,v6,v7)=>(iteS (!decide (v7=0)) (some (([]:List Tr),v6,v7)) (some (v4,v6,0)))))
def kB (k:Nat) (p0:bF) (p1:Int) (p2:Int):Option ((List Tr)×bF×Int×Int):=(iteS (!decide (p2=0)) (some (([]:List Tr),p0,p1,p2)) ((aEM k p0 p1).bind fun (v1,v2,v3)=>((dK k p0 v2 p2 v3).bind fun (v4,v5,v6)=>(some (v1,v4,v5,v6)))))
def gK (k:Nat) (p0:bF) (p1:Int) (p2:Int):Option ((List UInt8)×bF×Int×Int):=((aAF k p0 p1).bind fun (v1,v2)=>(iteS (!decide (p2=0)) ((dK k p0 p1 p2 6).bind fun (v3,v4,v5)=>(some (([]:List UInt8),v3,v4,v5))) (iteS (!v2) ((dK k p0 p1 p2 6).bind fun (v6,v7,v8)=>(some (([]:List UInt8),v6,v7,v8))) (some (v1,p0,(IntKind.i64.wrap (p1+1)),p2)))))
def cQ (k:Nat) (p0:bF) (p1:Int) (p2:Int):Option ((List UInt8)×bF×Int×Int):=((gK k p0 p1 p2).bind fun (v1,v2,v3,v4)=>(some (v1,v2,v3,v4)))
mutual
def dC:Nat→bF→Int→Int→(List UInt8)→Option (Tr×bF×Int×Int)
 | 0,_,_,_,_=>none
 | k+1,p0,p1,p2,p3=>((bC k p0 p1 p2 ([p3]:List (List UInt8))).bind fun (v1,v2,v3)=>((cF k v1 v2 v3).bind fun (v4,v5,v6,v7)=>(some (v4,v5,v6,v7))))
def eI:Nat→bF→Int→Int→Option (Tr×bF×Int×Int)
 | 0,_,_,_=>none
 | k+1,p0,p1,p2=>((aQ k p0 p1 p2 ([118,97,108]:List UInt8)).bind fun (v1,v2,v3,v4)=>(iteS v1 ((bO k v2 v3 v4).bind fun (v5,v6,v7,v8)=>((eK k v6 v7 v8 ([58]:List UInt8)).bind fun (v9,v10,v11,v12)=>((fR k 60 v5 ([v9]:List Tr)).bind fun v13=>(some (v13,v10,v11,v12))))) ((aQ k v2 v3 v4 ([116,121,112,101]:List UInt8)).bind fun (v14,v15,v16,v17)=>(iteS v14 ((bO k v15 v16 v17).bind fun (v18,v19,v20,v21)=>((aQ k v19 v20 v21 ([61]:List UInt8)).bind fun (v22,v23,v24,v25)=>(iteS (!v22) ((fR k 61 v18 ([]:List Tr)).bind fun v26=>(some (v26,v23,v24,v25))) ((iK k v23 v24 v25).bind fun (v27,v28,v29,v30)=>((fR k 61 v18 ([v27]:List Tr)).bind fun v31=>(some (v31,v28,v29,v30))))))) ((aQ k v15 v16 v17 ([100,97,116,97,116,121,112,101]:List UInt8)).bind fun (v32,v33,v34,v35)=>(iteS v32 ((bO k v33 v34 v35).bind fun (v36,v37,v38,v39)=>((bC k v37 v38 v39 ([([61]:List UInt8)]:List (List UInt8))).bind fun (v40,v41,v42)=>((kB k v40 v41 v42).bind fun (v43,v44,v45,v46)=>((fR k 62 v36 v43).bind fun v47=>(some (v47,v44,v45,v46)))))) ((aQ k v33 v34 v35 ([115,116,114,117,99,116,117,114,101]:List UInt8)).bind fun (v48,v49,v50,v51)=>(iteS v48 ((bO k v49 v50 v51).bind fun (v52,v53,v54,v55)=>((dC k v53 v54 v55 ([58]:List UInt8)).bind fun (v56,v57,v58,v59)=>((fR k 63 v52 ([v56]:List Tr)).bind fun v60=>(some (v60,v57,v58,v59))))) ((aQ k v49 v50 v51 ([105,110,99,108,117,100,101]:List UInt8)).bind fun (v61,v62,v63,v64)=>(iteS v61 ((cF k v62 v63 v64).bind fun (v65,v66,v67,v68)=>((fR k 64 ([]:List UInt8) ([v65]:List Tr)).bind fun v69=>(some (v69,v66,v67,v68)))) ((aQ k v62 v63 v64 ([115,104,97,114,105,110,103]:List UInt8)).bind fun (v70,v71,v72,v73)=>(iteS v70 ((bC k v71 v72 v73 ([([116,121,112,101]:List UInt8)]:List (List UInt8))).bind fun (v74,v75,v76)=>((cQ k v74 v75 v76).bind fun (v77,v78,v79,v80)=>((bC k v78 v79 v80 ([([61]:List UInt8)]:List (List UInt8))).bind fun (v81,v82,v83)=>((cQ k v81 v82 v83).bind fun (v84,v85,v86,v87)=>(some ((.node 65 0 v77 v84 ([]:List Tr)),v85,v86,v87)))))) (some (.nil,v71,v72,v73))))))))))))))
def fQ:Nat→bF→Int→Int→Option (Tr×bF×Int×Int)
 | 0,_,_,_=>none
 | k+1,p0,p1,p2=>((aQ k p0 p1 p2 ([115,105,103]:List UInt8)).bind fun (v1,v2,v3,v4)=>(iteS (!v1) ((bO k v2 v3 v4).bind fun (v5,v6,v7,v8)=>((qV k 51 v5).bind fun (v9,v10,v11,v12)=>(some ((.node v9 v10 v11 v12 ([]:List Tr)),v6,v7,v8)))) ((qV k 50 ([]:List UInt8)).bind fun (v13,v14,v15,v16)=>((eI k v2 v3 v4).bind fun (v17,v18,v19,v20)=>(bT k v17 v18 v19 v20 v13 v14 v15 v16 ([]:List Tr))))))
def bT:Nat→Tr→bF→Int→Int→Int→Int→(List UInt8)→(List UInt8)→(List Tr)→Option (Tr×bF×Int×Int)
 | 0,_,_,_,_,_,_,_,_,_=>none
 | k21+1,w0_0,w0_1,w0_2,w0_3,w0_4,w0_5,w0_6,w0_7,w0_8=>(match w0_0 with | .nil=>((bC k21 w0_1 w0_2 w0_3 ([([101,110,100]:List UInt8)]:List (List UInt8))).bind fun (v27,v28,v29)=>(some ((.node w0_4 w0_5 w0_6 w0_7 w0_8),v27,v28,v29))) | .node n22 n23 n24 n25 n26=>((aAt 8 w0_8 ([(.node n22 n23 n24 n25 n26)]:List Tr)).bind fun v30=>((eI k21 w0_1 w0_2 w0_3).bind fun (v31,v32,v33,v34)=>(bT k21 v31 v32 v33 v34 w0_4 w0_5 w0_6 w0_7 v30))))
def cF:Nat→bF→Int→Int→Option (Tr×bF×Int×Int)
 | 0,_,_,_=>none
 | k+1,p0,p1,p2=>((fQ k p0 p1 p2).bind fun (v1,v2,v3,v4)=>(dO k v1 v2 v3 v4))
def dO:Nat→Tr→bF→Int→Int→Option (Tr×bF×Int×Int)
 | 0,_,_,_,_=>none
 | k5+1,w0_0,w0_1,w0_2,w0_3=>((aQ k5 w0_1 w0_2 w0_3 ([119,104,101,114,101]:List UInt8)).bind fun (v6,v7,v8,v9)=>(iteS v6 ((bC k5 v7 v8 v9 ([([116,121,112,101]:List UInt8)]:List (List UInt8))).bind fun (v10,v11,v12)=>((cQ k5 v10 v11 v12).bind fun (v13,v14,v15,v16)=>((bC k5 v14 v15 v16 ([([61]:List UInt8)]:List (List UInt8))).bind fun (v17,v18,v19)=>((iK k5 v17 v18 v19).bind fun (v20,v21,v22,v23)=>((fR k5 52 v13 ([w0_0,v20]:List Tr)).bind fun v24=>(dO k5 v24 v21 v22 v23)))))) (some (w0_0,v7,v8,v9))))
end
mutual
def fU:Nat→bF→Int→Int→Option (Tr×bF×Int×Int)
 | 0,_,_,_=>none
 | k+1,p0,p1,p2=>((aQ k p0 p1 p2 ([115,116,114,117,99,116]:List UInt8)).bind fun (v1,v2,v3,v4)=>(iteS v1 ((kH k v2 v3 v4 false).bind fun (v5,v6,v7,v8)=>((bC k v6 v7 v8 ([([101,110,100]:List UInt8)]:List (List UInt8))).bind fun (v9,v10,v11)=>((fR k 40 ([]:List UInt8) v5).bind fun v12=>(some (v12,v9,v10,v11))))) ((aQ k v2 v3 v4 ([40]:List UInt8)).bind fun (v13,v14,v15,v16)=>(iteS v13 ((dN k v14 v15 v16).bind fun (v17,v18,v19,v20)=>((bC k v18 v19 v20 ([([41]:List UInt8)]:List (List UInt8))).bind fun (v21,v22,v23)=>(some (v17,v21,v22,v23)))) ((vW k v14 v15).bind fun (v24,v25)=>(iteS v25 ((kT k v14 (IntKind.i64.wrap (v15+1)) ([40]:List UInt8)).bind fun v26=>(iteS v26 (iteS (decide (v16=0)) (nU k v24 v14 (IntKind.i64.wrap (v15+2)) v16) ((cQ k v14 v15 v16).bind fun (v36,v37,v38,v39)=>((fR k 41 v36 ([]:List Tr)).bind fun v40=>(some (v40,v37,v38,v39))))) ((cQ k v14 v15 v16).bind fun (v41,v42,v43,v44)=>((fR k 41 v41 ([]:List Tr)).bind fun v45=>(some (v45,v42,v43,v44)))))) ((cQ k v14 v15 v16).bind fun (v46,v47,v48,v49)=>((fR k 41 v46 ([]:List Tr)).bind fun v50=>(some (v50,v47,v48,v49))))))))))
def nU:Nat→(List UInt8)→bF→Int→Int→Option (Tr×bF×Int×Int)
 | 0,_,_,_,_=>none
 | k27+1,c0_0,c0_1,c0_2,c0_3=>((dN k27 c0_1 c0_2 c0_3).bind fun (v28,v29,v30,v31)=>((bC k27 v29 v30 v31 ([([41]:List UInt8)]:List (List UInt8))).bind fun (v32,v33,v34)=>((fR k27 42 c0_0 ([v28]:List Tr)).bind fun v35=>(some (v35,v32,v33,v34)))))
def dN:Nat→bF→Int→Int→Option (Tr×bF×Int×Int)
 | 0,_,_,_=>none
 | k+1,p0,p1,p2=>((fU k p0 p1 p2).bind fun (v1,v2,v3,v4)=>(cV k v1 v2 v3 v4))
def cV:Nat→Tr→bF→Int→Int→Option (Tr×bF×Int×Int)
 | 0,_,_,_,_=>none
 | k5+1,w0_0,w0_1,w0_2,w0_3=>((aQ k5 w0_1 w0_2 w0_3 ([58]:List UInt8)).bind fun (v6,v7,v8,v9)=>(iteS v6 ((cF k5 v7 v8 v9).bind fun (v10,v11,v12,v13)=>(cV k5 (.node 43 0 ([]:List UInt8) ([]:List UInt8) ([w0_0,v10]:List Tr)) v11 v12 v13)) ((aQ k5 v7 v8 v9 ([58,62]:List UInt8)).bind fun (v14,v15,v16,v17)=>(iteS v14 ((cF k5 v15 v16 v17).bind fun (v18,v19,v20,v21)=>(cV k5 (.node 43 1 ([]:List UInt8) ([]:List UInt8) ([w0_0,v18]:List Tr)) v19 v20 v21)) (some (w0_0,v15,v16,v17))))))
def dR:Nat→bF→Int→Int→(List UInt8)→Option (Tr×bF×Int×Int)
 | 0,_,_,_,_=>none
 | k+1,p0,p1,p2,p3=>((bC k p0 p1 p2 ([p3]:List (List UInt8))).bind fun (v1,v2,v3)=>((dN k v1 v2 v3).bind fun (v4,v5,v6,v7)=>(some (v4,v5,v6,v7))))
def dW:Nat→bF→Int→Int→Bool→Option (Tr×bF×Int×Int)
 | 0,_,_,_,_=>none
 | k+1,p0,p1,p2,p3=>((aQ k p0 p1 p2 ([118,97,108]:List UInt8)).bind fun (v1,v2,v3,v4)=>(iteS v1 ((bO k v2 v3 v4).bind fun (v5,v6,v7,v8)=>((qV k 70 v5).bind fun (v9,v10,v11,v12)=>((aQ k v6 v7 v8 ([58]:List UInt8)).bind fun (v13,v14,v15,v16)=>(iteS v13 ((iK k v14 v15 v16).bind fun (v17,v18,v19,v20)=>((aAt 8 ([]:List Tr) ([v17]:List Tr)).bind fun v21=>(cB k v18 v19 v20 v9 v10 v11 v12 v21))) (cB k v14 v15 v16 v9 v10 v11 v12 ([]:List Tr)))))) ((aQ k v2 v3 v4 ([116,121,112,101]:List UInt8)).bind fun (v28,v29,v30,v31)=>(iteS v28 ((bO k v29 v30 v31).bind fun (v32,v33,v34,v35)=>((eK k v33 v34 v35 ([61]:List UInt8)).bind fun (v36,v37,v38,v39)=>((fR k 71 v32 ([v36]:List Tr)).bind fun v40=>(some (v40,v37,v38,v39))))) ((aQ k v29 v30 v31 ([100,97,116,97,116,121,112,101]:List UInt8)).bind fun (v41,v42,v43,v44)=>(iteS v41 ((bO k v42 v43 v44).bind fun (v45,v46,v47,v48)=>((bC k v46 v47 v48 ([([61]:List UInt8)]:List (List UInt8))).bind fun (v49,v50,v51)=>((kB k v49 v50 v51).bind fun (v52,v53,v54,v55)=>((fR k 72 v45 v52).bind fun v56=>(some (v56,v53,v54,v55)))))) ((aQ k v42 v43 v44 ([115,116,114,117,99,116,117,114,101]:List UInt8)).bind fun (v57,v58,v59,v60)=>(iteS v57 ((bO k v58 v59 v60).bind fun (v61,v62,v63,v64)=>((dR k v62 v63 v64 ([61]:List UInt8)).bind fun (v65,v66,v67,v68)=>((fR k 73 v61 ([v65]:List Tr)).bind fun v69=>(some (v69,v66,v67,v68))))) ((aQ k v58 v59 v60 ([111,112,101,110]:List UInt8)).bind fun (v70,v71,v72,v73)=>(iteS v70 ((cQ k v71 v72 v73).bind fun (v74,v75,v76,v77)=>((qV k 76 v74).bind fun (v78,v79,v80,v81)=>(some ((.node v78 v79 v80 v81 ([]:List Tr)),v75,v76,v77)))) ((aQ k v71 v72 v73 ([105,110,99,108,117,100,101]:List UInt8)).bind fun (v82,v83,v84,v85)=>(iteS v82 ((cQ k v83 v84 v85).bind fun (v86,v87,v88,v89)=>((qV k 77 v86).bind fun (v90,v91,v92,v93)=>(some ((.node v90 v91 v92 v93 ([]:List Tr)),v87,v88,v89)))) (iteS p3 ((aQ k v83 v84 v85 ([115,105,103,110,97,116,117,114,101]:List UInt8)).bind fun (v94,v95,v96,v97)=>(iteS v94 ((bO k v95 v96 v97).bind fun (v98,v99,v100,v101)=>((dC k v99 v100 v101 ([61]:List UInt8)).bind fun (v102,v103,v104,v105)=>((fR k 74 v98 ([v102]:List Tr)).bind fun v106=>(some (v106,v103,v104,v105))))) ((aQ k v95 v96 v97 ([102,117,110,99,116,111,114]:List UInt8)).bind fun (v107,v108,v109,v110)=>(iteS v107 ((bO k v108 v109 v110).bind fun (v111,v112,v113,v114)=>((qV k 75 v111).bind fun (v115,v116,v117,v118)=>(fZ k v112 v113 v114 v115 v116 v117 v118))) (some (.nil,v108,v109,v110)))))) (some (.nil,v83,v84,v85)))))))))))))))
def cB:Nat→bF→Int→Int→Int→Int→(List UInt8)→(List UInt8)→(List Tr)→Option (Tr×bF×Int×Int)
 | 0,_,_,_,_,_,_,_,_=>none
 | k22+1,c0_0,c0_1,c0_2,c0_3,c0_4,c0_5,c0_6,c0_7=>((eU k22 c0_0 c0_1 c0_2 ([61]:List UInt8)).bind fun (v23,v24,v25,v26)=>((aAt 8 c0_7 ([v23]:List Tr)).bind fun v27=>(some ((.node c0_3 c0_4 c0_5 c0_6 v27),v24,v25,v26))))
def fZ:Nat→bF→Int→Int→Int→Int→(List UInt8)→(List UInt8)→Option (Tr×bF×Int×Int)
 | 0,_,_,_,_,_,_,_=>none
 | k119+1,c1_0,c1_1,c1_2,c1_3,c1_4,c1_5,_c1_6=>((bC k119 c1_0 c1_1 c1_2 ([([40]:List UInt8)]:List (List UInt8))).bind fun (v120,v121,v122)=>((bO k119 v120 v121 v122).bind fun (v123,v124,v125,v126)=>((dC k119 v124 v125 v126 ([58]:List UInt8)).bind fun (v127,v128,v129,v130)=>((bC k119 v128 v129 v130 ([([41]:List UInt8)]:List (List UInt8))).bind fun (v131,v132,v133)=>((dR k119 v131 v132 v133 ([61]:List UInt8)).bind fun (v134,v135,v136,v137)=>(some ((.node c1_3 c1_4 c1_5 v123 ([v127,v134]:List Tr)),v135,v136,v137)))))))
def kH:Nat→bF→Int→Int→Bool→Option ((List Tr)×bF×Int×Int)
 | 0,_,_,_,_=>none
 | k+1,p0,p1,p2,p3=>((dW k p0 p1 p2 p3).bind fun (v1,v2,v3,v4)=>(bJ k p3 ([]:List Tr) v1 v2 v3 v4))
def bJ:Nat→Bool→(List Tr)→Tr→bF→Int→Int→Option ((List Tr)×bF×Int×Int)
 | 0,_,_,_,_,_,_=>none
 | k5+1,w0_0,w0_1,w0_2,w0_3,w0_4,w0_5=>(match w0_2 with | .nil=>(some (w0_1,w0_3,w0_4,w0_5)) | .node n6 n7 n8 n9 n10=>((aAt 8 w0_1 ([(.node n6 n7 n8 n9 n10)]:List Tr)).bind fun v11=>((dW k5 w0_3 w0_4 w0_5 w0_0).bind fun (v12,v13,v14,v15)=>(bJ k5 w0_0 v11 v12 v13 v14 v15))))
end
def aNL (k:Nat) (p0:bF) (p1:Int) (p2:Bool):Option ((List Tr)×Int×Int):=((aAk k p0 p1).bind fun (v1,v2,v3)=>((kH k v1 v2 v3 p2).bind fun (v4,_v5,v6,v7)=>(iteS (!decide (v7=0)) (some (([]:List Tr),v6,v7)) (some (v4,v6,0)))))
mutual
def rF:Nat→Tr→Option (Int)
 | 0,_=>none
 | k+1,p0=>(match p0 with | .nil=>(some 0) | .node _n1 _n2 _n3 _n4 n5=>(oU k 1 n5 0))
def oU:Nat→Int→(List Tr)→Int→Option (Int)
 | 0,_,_,_=>none
 | k6+1,w0_0,w0_1,w0_2=>(iteS (decide (w0_2<((w0_1.length:Nat):Int))) ((aU w0_1 w0_2).bind fun v7=>((rF k6 v7).bind fun v8=>(oU k6 (IntKind.i64.wrap (w0_0+v8)) w0_1 (IntKind.i64.wrap (w0_2+1))))) (some w0_0))
end
mutual
def jU:Nat→Tr→Option (Int)
 | 0,_=>none
 | k+1,p0=>(match p0 with | .nil=>(some 0) | .node _n1 _n2 _n3 _n4 n5=>(oN k 0 n5 0))
def oN:Nat→Int→(List Tr)→Int→Option (Int)
 | 0,_,_,_=>none
 | k6+1,w0_0,w0_1,w0_2=>(iteS (decide (w0_2<((w0_1.length:Nat):Int))) ((aU w0_1 w0_2).bind fun v7=>((jU k6 v7).bind fun v8=>(oN k6 (if w0_0<v8 then v8 else w0_0) w0_1 (IntKind.i64.wrap (w0_2+1))))) (some (IntKind.i64.wrap (w0_0+1))))
end
def sD:Nat→(List UInt8)→Int→bF→(List Tr)→Int→Option (Tr×Int×Int)
 | 0,_,_,_,_,_=>none
 | k7+1,c0_0,c0_1,c0_2,c0_3,c0_4=>(iteS (!decide (c0_1=0)) (iteS (decide (c0_4<((c0_2.length:Nat):Int))) ((aU c0_2 c0_4).bind fun v8=>(some (.nil,v8.2.2.2,c0_1))) (some (.nil,((c0_0.length:Nat):Int),c0_1))) ((fR k7 80 ([]:List UInt8) c0_3).bind fun v9=>((rF k7 v9).bind fun v10=>(iteS (decide (8192<v10)) (some (.nil,0,3)) ((jU k7 v9).bind fun v11=>(iteS (decide (60<v11)) (some (.nil,0,7)) (some (v9,0,0))))))))
def aLC (k:Nat) (p0:(List UInt8)):Option (Tr×Int×Int):=((rY k p0).bind fun (v1,v2,v3)=>(iteS (!decide (v3=0)) (some (.nil,v2,v3)) ((aNL k v1 0 true).bind fun (v4,v5,v6)=>(iteS (decide (v6=0)) (iteS (decide (v5<((v1.length:Nat):Int))) (sD k p0 6 v1 v4 v5) (sD k p0 v6 v1 v4 v5)) (sD k p0 v6 v1 v4 v5)))))
mutual
def uS:Nat→Tr→Option (Bool)
 | 0,_=>none
 | k+1,p0=>((qN k p0).bind fun v1=>(some (!v1)))
def slices_IndexFunc:Nat→(List Tr)→Option (Int)
 | 0,_=>none
 | k+1,p0=>(eR k p0 0)
def eR:Nat→(List Tr)→Int→Option (Int)
 | 0,_,_=>none
 | k1+1,w0_0,w0_1=>(iteS (decide (w0_1<((w0_0.length:Nat):Int))) ((aU w0_0 w0_1).bind fun v2=>((uS k1 v2).bind fun v3=>(iteS v3 (some w0_1) (eR k1 w0_0 (IntKind.i64.wrap (w0_1+1)))))) (some (-1)))
def slices_ContainsFunc:Nat→(List Tr)→Option (Bool)
 | 0,_=>none
 | k+1,p0=>((slices_IndexFunc k p0).bind fun v1=>(some (decide (0≤v1))))
def qN:Nat→Tr→Option (Bool)
 | 0,_=>none
 | k+1,p0=>(match p0 with | .nil=>(some false) | .node _n1 _n2 _n3 _n4 n5=>((slices_ContainsFunc k n5).bind fun v6=>(some (!v6))))
end
mutual
def qL:Nat→Tr→(List (Int×Int×(List UInt8)×(List UInt8)×(List Int)))→Option (Int×(List (Int×Int×(List UInt8)×(List UInt8)×(List Int))))
 | 0,_,_=>none
 | k+1,p0,p1=>(match p0 with | .nil=>none | .node n1 n2 n3 n4 n5=>(kZ k n5 0 p1 n1 n2 n3 n4 ([]:List Int)))
def kZ:Nat→(List Tr)→Int→(List (Int×Int×(List UInt8)×(List UInt8)×(List Int)))→Int→Int→(List UInt8)→(List UInt8)→(List Int)→Option (Int×(List (Int×Int×(List UInt8)×(List UInt8)×(List Int))))
 | 0,_,_,_,_,_,_,_,_=>none
 | k6+1,w0_0,w0_1,w0_2,w0_3,w0_4,w0_5,w0_6,w0_7=>(iteS (decide (w0_1<((w0_0.length:Nat):Int))) ((aU w0_0 w0_1).bind fun v7=>((qL k6 v7 w0_2).bind fun (v8,v9)=>((aAt 8 w0_7 ([v8]:List Int)).bind fun v10=>(kZ k6 w0_0 (IntKind.i64.wrap (w0_1+1)) v9 w0_3 w0_4 w0_5 w0_6 v10)))) ((aAt 72 w0_2 ([(w0_3,w0_4,w0_5,w0_6,w0_7)]:List (Int×Int×(List UInt8)×(List UInt8)×(List Int)))).bind fun v11=>(some ((IntKind.i64.wrap (((v11.length:Nat):Int) - 1)),v11))))
end
def rE (k:Nat) (p0:Tr):Option ((List (Int×Int×(List UInt8)×(List UInt8)×(List Int)))×Int):=((qN k p0).bind fun v1=>(iteS (!v1) (some (([]:List (Int×Int×(List UInt8)×(List UInt8)×(List Int))),1)) ((rF k p0).bind fun v2=>(iteS (decide (8192<v2)) (some (([]:List (Int×Int×(List UInt8)×(List UInt8)×(List Int))),3)) ((qL k p0 ([]:List (Int×Int×(List UInt8)×(List UInt8)×(List Int)))).bind fun (_v3,v4)=>(some (v4,0)))))))
def bI (_k:Nat) (p0:Tr) (p1:Bool) (p2:Bool) (p3:Bool):Option (Bool):=(iteS p1 (iteS p2 (iteS p3 (some true) (match p0 with | .nil=>none | .node _n1 n2 _n3 _n4 _n5=>(some (decide (n2=0))))) (match p0 with | .nil=>none | .node _n6 n7 _n8 n9 _n10=>(iteS (decide (n9=([]:List UInt8))) (iteS p3 (some true) (some (decide (n7=0)))) (some false)))) (match p0 with | .nil=>none | .node _n11 n12 n13 n14 _n15=>(iteS (decide (n13=([]:List UInt8))) (iteS p2 (iteS p3 (some true) (some (decide (n12=0)))) (iteS (decide (n14=([]:List UInt8))) (iteS p3 (some true) (some (decide (n12=0)))) (some false))) (some false))))
def zJ:Nat→Tr→Option (Bool)
 | 0,_=>none
 | _k6+1,_w0_0=>(some true)
def gQ (k:Nat) (p0:Tr):Option (Bool):=(match p0 with | .nil=>none | .node n1 n2 n3 n4 n5=>(iteS (!decide (((n5.length:Nat):Int)=0)) (some false) (zJ k (.node n1 n2 n3 n4 n5))))
mutual
def rA:Nat→Tr→Option (Bool)
 | 0,_=>none
 | k+1,p0=>(match p0 with | .nil=>none | .node n1 n2 n3 n4 n5=>(oM k (.node n1 n2 n3 n4 n5) n5 0 ([]:List ((List UInt8)×Bool))))
def oM:Nat→Tr→(List Tr)→Int→(List ((List UInt8)×Bool))→Option (Bool)
 | 0,_,_,_,_=>none
 | k6+1,w0_0,w0_1,w0_2,w0_3=>(iteS (decide (w0_2<((w0_1.length:Nat):Int))) ((aU w0_1 w0_2).bind fun v7=>(match v7 with | .nil=>none | .node n8 n9 n10 n11 n12=>(iteS (!decide (n8=8)) (some false) ((bI k6 (.node n8 n9 n10 n11 n12) true false false).bind fun v13=>(iteS (!v13) (some false) ((eC k6 n10).bind fun v14=>(iteS (!v14) (some false) (iteS ((jD w0_3 n10).getD false) (some false) ((mF k6 (.node n8 n9 n10 n11 n12)).bind fun v15=>(iteS (!v15) (some false) (oM k6 w0_0 w0_1 (IntKind.i64.wrap (w0_2+1)) (aEE w0_3 n10 true)))))))))))) (match w0_0 with | .nil=>none | .node _n16 _n17 _n18 _n19 n20=>(some (decide (0<((n20.length:Nat):Int))))))
def sT:Nat→Tr→Option (Bool)
 | 0,_=>none
 | k+1,p0=>(match p0 with | .nil=>none | .node _n1 _n2 _n3 _n4 n5=>(iteS (!decide (((n5.length:Nat):Int)=2)) (some false) ((aU n5 0).bind fun v6=>((eP k v6).bind fun v7=>(iteS (!v7) (some false) ((aU n5 1).bind fun v8=>((eP k v8).bind fun v9=>(iteS (!v9) (some false) (some true)))))))))
def eP:Nat→Tr→Option (Bool)
 | 0,_=>none
 | k+1,p0=>(match p0 with | .nil=>none | .node n1 n2 n3 n4 n5=>(iteS (decide (n1=1)) ((bI k (.node n1 n2 n3 n4 n5) false false false).bind fun v6=>(iteS v6 ((gQ k (.node n1 n2 n3 n4 n5)).bind fun v7=>(some v7)) (some false))) (iteS (decide (n1=2)) ((bI k (.node n1 n2 n3 n4 n5) false false false).bind fun v8=>(iteS v8 ((gQ k (.node n1 n2 n3 n4 n5)).bind fun v9=>(some v9)) (some false))) (iteS (decide (n1=3)) ((bI k (.node n1 n2 n3 n4 n5) false false false).bind fun v10=>(iteS v10 ((gQ k (.node n1 n2 n3 n4 n5)).bind fun v11=>(some v11)) (some false))) (iteS (decide (n1=4)) ((bI k (.node n1 n2 n3 n4 n5) true false false).bind fun v12=>(iteS v12 ((lR k n3).bind fun v13=>(iteS v13 ((gQ k (.node n1 n2 n3 n4 n5)).bind fun v14=>(some v14)) (some false))) (some false))) (iteS (decide (n1=5)) ((bI k (.node n1 n2 n3 n4 n5) false false false).bind fun v15=>(iteS v15 ((sT k (.node n1 n2 n3 n4 n5)).bind fun v16=>(some v16)) (some false))) (iteS (decide (n1=6)) ((bI k (.node n1 n2 n3 n4 n5) false false false).bind fun v17=>(iteS v17 ((sT k (.node n1 n2 n3 n4 n5)).bind fun v18=>(some v18)) (some false))) (iteS (decide (n1=7)) ((bI k (.node n1 n2 n3 n4 n5) true false false).bind fun v19=>(iteS v19 ((eC k n3).bind fun v20=>(iteS v20 ((rA k (.node n1 n2 n3 n4 n5)).bind fun v21=>(some v21)) (some false))) (some false))) (some false)))))))))
def mF:Nat→Tr→Option (Bool)
 | 0,_=>none
 | k+1,p0=>(match p0 with | .nil=>none | .node _n1 _n2 _n3 _n4 n5=>(iteS (!decide (((n5.length:Nat):Int)=1)) (some false) ((aU n5 0).bind fun v6=>((eP k v6).bind fun v7=>(iteS (!v7) (some false) (some true))))))
end
mutual
def uR:Nat→Tr→Option (Bool)
 | 0,_=>none
 | k+1,p0=>(match p0 with | .nil=>none | .node _n1 _n2 _n3 _n4 n5=>(iteS (!decide (((n5.length:Nat):Int)=2)) (some false) ((aU n5 0).bind fun v6=>((kC k v6).bind fun v7=>(iteS (!v7) (some false) ((aU n5 1).bind fun v8=>((eP k v8).bind fun v9=>(iteS (!v9) (some false) (some true)))))))))
def tQ:Nat→Tr→Option (Bool)
 | 0,_=>none
 | k+1,p0=>(match p0 with | .nil=>none | .node n1 n2 n3 n4 n5=>(iteS (decide (n1=64)) ((bI k (.node n1 n2 n3 n4 n5) false false false).bind fun v6=>(iteS v6 ((oH k (.node n1 n2 n3 n4 n5)).bind fun v7=>(some v7)) (some false))) (iteS (decide (n1=65)) ((bI k (.node n1 n2 n3 n4 n5) true true false).bind fun v8=>(iteS v8 ((lR k n3).bind fun v9=>(iteS v9 ((lR k n4).bind fun v10=>(iteS v10 ((gQ k (.node n1 n2 n3 n4 n5)).bind fun v11=>(some v11)) (some false))) (some false))) (some false))) ((bI k (.node n1 n2 n3 n4 n5) true false false).bind fun v12=>(iteS (!v12) (some false) ((eC k n3).bind fun v13=>(iteS (!v13) (some false) (iteS (decide (n1=60)) ((mF k (.node n1 n2 n3 n4 n5)).bind fun v14=>(some v14)) (iteS (decide (n1=61)) ((gQ k (.node n1 n2 n3 n4 n5)).bind fun v15=>(iteS v15 (some true) ((mF k (.node n1 n2 n3 n4 n5)).bind fun v16=>(some v16)))) (iteS (decide (n1=62)) ((rA k (.node n1 n2 n3 n4 n5)).bind fun v17=>(some v17)) (iteS (decide (n1=63)) ((oH k (.node n1 n2 n3 n4 n5)).bind fun v18=>(some v18)) (some false))))))))))))
def wY:Nat→Tr→Int→Option (Bool)
 | 0,_,_=>none
 | k+1,p0,p1=>(match p0 with | .nil=>none | .node _n1 _n2 _n3 _n4 n5=>((jA n5 p1 ((n5.length:Nat):Int)).bind fun v6=>(qA k v6 0)))
def qA:Nat→(List Tr)→Int→Option (Bool)
 | 0,_,_=>none
 | k7+1,w0_0,w0_1=>(iteS (decide (w0_1<((w0_0.length:Nat):Int))) ((aU w0_0 w0_1).bind fun v8=>((tQ k7 v8).bind fun v9=>(iteS (!v9) (some false) (qA k7 w0_0 (IntKind.i64.wrap (w0_1+1)))))) (some true))
def kC:Nat→Tr→Option (Bool)
 | 0,_=>none
 | k+1,p0=>(match p0 with | .nil=>none | .node n1 n2 n3 n4 n5=>(iteS (decide (n1=50)) ((bI k (.node n1 n2 n3 n4 n5) false false false).bind fun v6=>(iteS v6 ((wY k (.node n1 n2 n3 n4 n5) 0).bind fun v7=>(some v7)) (some false))) (iteS (decide (n1=51)) ((bI k (.node n1 n2 n3 n4 n5) true false false).bind fun v8=>(iteS v8 ((eC k n3).bind fun v9=>(iteS v9 ((gQ k (.node n1 n2 n3 n4 n5)).bind fun v10=>(some v10)) (some false))) (some false))) (iteS (decide (n1=52)) ((bI k (.node n1 n2 n3 n4 n5) true false false).bind fun v11=>(iteS v11 ((lR k n3).bind fun v12=>(iteS v12 ((uR k (.node n1 n2 n3 n4 n5)).bind fun v13=>(some v13)) (some false))) (some false))) (some false)))))
def oH:Nat→Tr→Option (Bool)
 | 0,_=>none
 | k+1,p0=>(match p0 with | .nil=>none | .node _n1 _n2 _n3 _n4 n5=>(iteS (!decide (((n5.length:Nat):Int)=1)) (some false) ((aU n5 0).bind fun v6=>((kC k v6).bind fun v7=>(iteS (!v7) (some false) (some true))))))
end
mutual
def tY:Nat→Tr→Option (Bool)
 | 0,_=>none
 | k+1,p0=>(match p0 with | .nil=>none | .node n1 n2 n3 n4 n5=>(iteS (decide (n1=34)) ((bI k (.node n1 n2 n3 n4 n5) true true false).bind fun v6=>(iteS v6 ((eC k n3).bind fun v7=>(iteS v7 ((eC k n4).bind fun v8=>(iteS v8 ((qS k (.node n1 n2 n3 n4 n5)).bind fun v9=>(some v9)) (some false))) (some false))) (some false))) (some false)))
def aBP:Nat→Tr→Int→Option (Bool)
 | 0,_,_=>none
 | k+1,p0,p1=>(match p0 with | .nil=>none | .node _n1 _n2 _n3 _n4 n5=>((jA n5 p1 ((n5.length:Nat):Int)).bind fun v6=>(qD k v6 0)))
def qD:Nat→(List Tr)→Int→Option (Bool)
 | 0,_,_=>none
 | k7+1,w0_0,w0_1=>(iteS (decide (w0_1<((w0_0.length:Nat):Int))) ((aU w0_0 w0_1).bind fun v8=>((tY k7 v8).bind fun v9=>(iteS (!v9) (some false) (qD k7 w0_0 (IntKind.i64.wrap (w0_1+1)))))) (some true))
def aAE:Nat→Tr→Int→Option (Bool)
 | 0,_,_=>none
 | k+1,p0,p1=>(match p0 with | .nil=>none | .node n1 n2 n3 n4 n5=>(iteS (decide (p1<((n5.length:Nat):Int))) ((aBP k (.node n1 n2 n3 n4 n5) p1).bind fun v6=>(some v6)) (some false)))
def uD:Nat→Tr→Option (Bool)
 | 0,_=>none
 | k+1,p0=>(match p0 with | .nil=>none | .node _n1 _n2 _n3 _n4 n5=>(iteS (!decide (((n5.length:Nat):Int)=2)) (some false) ((aU n5 0).bind fun v6=>((fH k v6).bind fun v7=>(iteS (!v7) (some false) ((aU n5 1).bind fun v8=>((fH k v8).bind fun v9=>(iteS (!v9) (some false) (some true)))))))))
def qE:Nat→Tr→Option (Bool)
 | 0,_=>none
 | k+1,p0=>(match p0 with | .nil=>none | .node _n1 _n2 _n3 _n4 n5=>(iteS (!decide (((n5.length:Nat):Int)=2)) (some false) ((aU n5 0).bind fun v6=>((eP k v6).bind fun v7=>(iteS (!v7) (some false) ((aU n5 1).bind fun v8=>((fH k v8).bind fun v9=>(iteS (!v9) (some false) (some true)))))))))
def aEC:Nat→Tr→Int→Option (Bool)
 | 0,_,_=>none
 | k+1,p0,p1=>(match p0 with | .nil=>none | .node _n1 _n2 _n3 _n4 n5=>((jA n5 p1 ((n5.length:Nat):Int)).bind fun v6=>(uP k v6 0)))
def uP:Nat→(List Tr)→Int→Option (Bool)
 | 0,_,_=>none
 | k7+1,w0_0,w0_1=>(iteS (decide (w0_1<((w0_0.length:Nat):Int))) ((aU w0_0 w0_1).bind fun v8=>((fH k7 v8).bind fun v9=>(iteS (!v9) (some false) (uP k7 w0_0 (IntKind.i64.wrap (w0_1+1)))))) (some true))
def kK:Nat→Tr→Int→Option (Bool)
 | 0,_,_=>none
 | k+1,p0,p1=>((bI k p0 false false false).bind fun v1=>(iteS v1 (match p0 with | .nil=>none | .node n2 n3 n4 n5 n6=>(iteS (decide (((n6.length:Nat):Int)=p1)) ((aEC k (.node n2 n3 n4 n5 n6) 0).bind fun v7=>(some v7)) (some false))) (some false)))
def fH:Nat→Tr→Option (Bool)
 | 0,_=>none
 | k+1,p0=>(match p0 with | .nil=>none | .node n1 n2 n3 n4 n5=>(iteS (decide (n1=20)) ((bI k (.node n1 n2 n3 n4 n5) false false true).bind fun v6=>(iteS v6 (iteS (decide ((-1073741824)≤n2)) (iteS (decide (n2≤1073741824)) ((gQ k (.node n1 n2 n3 n4 n5)).bind fun v7=>(some v7)) (some false)) (some false)) (some false))) (iteS (decide (n1=21)) ((bI k (.node n1 n2 n3 n4 n5) false false true).bind fun v8=>(iteS v8 (iteS (decide (n2=0)) ((gQ k (.node n1 n2 n3 n4 n5)).bind fun v9=>(some v9)) (iteS (decide (n2=1)) ((gQ k (.node n1 n2 n3 n4 n5)).bind fun v10=>(some v10)) (some false))) (some false))) (iteS (decide (n1=22)) ((kK k (.node n1 n2 n3 n4 n5) 0).bind fun v11=>(some v11)) (iteS (decide (n1=23)) ((bI k (.node n1 n2 n3 n4 n5) true false false).bind fun v12=>(iteS v12 ((lR k n3).bind fun v13=>(iteS v13 ((gQ k (.node n1 n2 n3 n4 n5)).bind fun v14=>(some v14)) (some false))) (some false))) (iteS (decide (n1=24)) ((bI k (.node n1 n2 n3 n4 n5) true false false).bind fun v15=>(iteS v15 ((eC k n3).bind fun v16=>(iteS v16 ((qE k (.node n1 n2 n3 n4 n5)).bind fun v17=>(some v17)) (some false))) (some false))) (iteS (decide (n1=25)) ((kK k (.node n1 n2 n3 n4 n5) 2).bind fun v18=>(some v18)) (iteS (decide (n1=26)) ((kK k (.node n1 n2 n3 n4 n5) 2).bind fun v19=>(some v19)) (iteS (decide (n1=27)) ((kK k (.node n1 n2 n3 n4 n5) 1).bind fun v20=>(some v20)) (iteS (decide (n1=28)) ((kK k (.node n1 n2 n3 n4 n5) 1).bind fun v21=>(some v21)) (iteS (decide (n1=29)) ((bI k (.node n1 n2 n3 n4 n5) true false false).bind fun v22=>(iteS v22 ((eC k n3).bind fun v23=>(iteS v23 ((uD k (.node n1 n2 n3 n4 n5)).bind fun v24=>(some v24)) (some false))) (some false))) (iteS (decide (n1=30)) ((kK k (.node n1 n2 n3 n4 n5) 3).bind fun v25=>(some v25)) (iteS (decide (n1=31)) ((bI k (.node n1 n2 n3 n4 n5) false false true).bind fun v26=>(iteS v26 (iteS (decide (1≤n2)) (iteS (decide (n2≤5)) ((uD k (.node n1 n2 n3 n4 n5)).bind fun v27=>(some v27)) (some false)) (some false)) (some false))) (iteS (decide (n1=32)) ((bI k (.node n1 n2 n3 n4 n5) false false false).bind fun v28=>(iteS v28 ((aAE k (.node n1 n2 n3 n4 n5) 1).bind fun v29=>(iteS v29 ((aU n5 0).bind fun v30=>((fH k v30).bind fun v31=>(some v31))) (some false))) (some false))) (iteS (decide (n1=33)) ((bI k (.node n1 n2 n3 n4 n5) false false false).bind fun v32=>(iteS v32 ((aAE k (.node n1 n2 n3 n4 n5) 2).bind fun v33=>(iteS v33 ((aU n5 0).bind fun v34=>((fH k v34).bind fun v35=>(iteS v35 ((aU n5 1).bind fun v36=>((eP k v36).bind fun v37=>(some v37))) (some false)))) (some false))) (some false))) (some false))))))))))))))))
def qS:Nat→Tr→Option (Bool)
 | 0,_=>none
 | k+1,p0=>(match p0 with | .nil=>none | .node _n1 _n2 _n3 _n4 n5=>(iteS (!decide (((n5.length:Nat):Int)=1)) (some false) ((aU n5 0).bind fun v6=>((fH k v6).bind fun v7=>(iteS (!v7) (some false) (some true))))))
end
mutual
def sZ:Nat→Tr→Option (Bool)
 | 0,_=>none
 | k+1,p0=>(match p0 with | .nil=>none | .node _n1 _n2 _n3 _n4 n5=>(iteS (!decide (((n5.length:Nat):Int)=2)) (some false) ((aU n5 0).bind fun v6=>((mU k v6).bind fun v7=>(iteS (!v7) (some false) ((aU n5 1).bind fun v8=>((kC k v8).bind fun v9=>(iteS (!v9) (some false) (some true)))))))))
def sX:Nat→Tr→Option (Bool)
 | 0,_=>none
 | k+1,p0=>(match p0 with | .nil=>none | .node _n1 _n2 _n3 _n4 n5=>(iteS (!decide (((n5.length:Nat):Int)=1)) (some false) ((aU n5 0).bind fun v6=>((mU k v6).bind fun v7=>(iteS (!v7) (some false) (some true))))))
def oO:Nat→Tr→Option (Bool)
 | 0,_=>none
 | k+1,p0=>((bI k p0 true false false).bind fun v1=>(iteS (!v1) (some false) (match p0 with | .nil=>none | .node n2 n3 n4 n5 n6=>(iteS (decide (n2=76)) ((lR k n4).bind fun v7=>(iteS v7 ((gQ k (.node n2 n3 n4 n5 n6)).bind fun v8=>(some v8)) (some false))) (iteS (decide (n2=77)) ((lR k n4).bind fun v9=>(iteS v9 ((gQ k (.node n2 n3 n4 n5 n6)).bind fun v10=>(some v10)) (some false))) (dJ k (.node n2 n3 n4 n5 n6)))))))
def dJ:Nat→Tr→Option (Bool)
 | 0,_=>none
 | k11+1,c0_0=>(match c0_0 with | .nil=>none | .node n12 n13 n14 n15 n16=>((eC k11 n14).bind fun v17=>(iteS (!v17) (some false) (iteS (decide (n12=70)) ((qS k11 (.node n12 n13 n14 n15 n16)).bind fun v18=>(iteS v18 (some true) ((qE k11 (.node n12 n13 n14 n15 n16)).bind fun v19=>(some v19)))) (iteS (decide (n12=71)) ((mF k11 (.node n12 n13 n14 n15 n16)).bind fun v20=>(some v20)) (iteS (decide (n12=72)) ((rA k11 (.node n12 n13 n14 n15 n16)).bind fun v21=>(some v21)) (iteS (decide (n12=73)) ((sX k11 (.node n12 n13 n14 n15 n16)).bind fun v22=>(some v22)) (some false))))))))
def xF:Nat→Tr→Int→Option (Bool)
 | 0,_,_=>none
 | k+1,p0,p1=>(match p0 with | .nil=>none | .node _n1 _n2 _n3 _n4 n5=>((jA n5 p1 ((n5.length:Nat):Int)).bind fun v6=>(qC k v6 0)))
def qC:Nat→(List Tr)→Int→Option (Bool)
 | 0,_,_=>none
 | k7+1,w0_0,w0_1=>(iteS (decide (w0_1<((w0_0.length:Nat):Int))) ((aU w0_0 w0_1).bind fun v8=>((oO k7 v8).bind fun v9=>(iteS (!v9) (some false) (qC k7 w0_0 (IntKind.i64.wrap (w0_1+1)))))) (some true))
def mU:Nat→Tr→Option (Bool)
 | 0,_=>none
 | k+1,p0=>(match p0 with | .nil=>none | .node n1 n2 n3 n4 n5=>(iteS (decide (n1=40)) ((bI k (.node n1 n2 n3 n4 n5) false false false).bind fun v6=>(iteS v6 ((xF k (.node n1 n2 n3 n4 n5) 0).bind fun v7=>(some v7)) (some false))) (iteS (decide (n1=41)) ((bI k (.node n1 n2 n3 n4 n5) true false false).bind fun v8=>(iteS v8 ((lR k n3).bind fun v9=>(iteS v9 ((gQ k (.node n1 n2 n3 n4 n5)).bind fun v10=>(some v10)) (some false))) (some false))) (iteS (decide (n1=42)) ((bI k (.node n1 n2 n3 n4 n5) true false false).bind fun v11=>(iteS v11 ((eC k n3).bind fun v12=>(iteS v12 ((sX k (.node n1 n2 n3 n4 n5)).bind fun v13=>(some v13)) (some false))) (some false))) (iteS (decide (n1=43)) ((bI k (.node n1 n2 n3 n4 n5) false false true).bind fun v14=>(iteS v14 (iteS (decide (n2=0)) ((sZ k (.node n1 n2 n3 n4 n5)).bind fun v15=>(some v15)) (iteS (decide (n2=1)) ((sZ k (.node n1 n2 n3 n4 n5)).bind fun v16=>(some v16)) (some false))) (some false))) (some false))))))
end
def aGY (k:Nat) (p0:Tr):Option (Bool):=(match p0 with | .nil=>none | .node _n1 _n2 _n3 _n4 n5=>(iteS (!decide (((n5.length:Nat):Int)=2)) (some false) ((aU n5 0).bind fun v6=>((kC k v6).bind fun v7=>(iteS (!v7) (some false) ((aU n5 1).bind fun v8=>((mU k v8).bind fun v9=>(iteS (!v9) (some false) (some true)))))))))
def aIp (k:Nat) (p0:Tr):Option (Bool):=(match p0 with | .nil=>none | .node n1 n2 n3 n4 n5=>(iteS (decide (n1=74)) ((bI k (.node n1 n2 n3 n4 n5) true false false).bind fun v6=>(iteS v6 ((eC k n3).bind fun v7=>(iteS v7 ((oH k (.node n1 n2 n3 n4 n5)).bind fun v8=>(some v8)) (some false))) (some false))) (iteS (decide (n1=75)) ((bI k (.node n1 n2 n3 n4 n5) true true false).bind fun v9=>(iteS v9 ((eC k n3).bind fun v10=>(iteS v10 ((eC k n4).bind fun v11=>(iteS v11 ((aGY k (.node n1 n2 n3 n4 n5)).bind fun v12=>(some v12)) (some false))) (some false))) (some false))) ((oO k (.node n1 n2 n3 n4 n5)).bind fun v13=>(some v13)))))
def uL:Nat→(List Tr)→Int→Option (Bool)
 | 0,_,_=>none
 | k7+1,w0_0,w0_1=>(iteS (decide (w0_1<((w0_0.length:Nat):Int))) ((aU w0_0 w0_1).bind fun v8=>((aIp k7 v8).bind fun v9=>(iteS (!v9) (some false) (uL k7 w0_0 (IntKind.i64.wrap (w0_1+1)))))) (some true))
def aIP (k:Nat) (p0:Tr) (p1:Int):Option (Bool):=(match p0 with | .nil=>none | .node _n1 _n2 _n3 _n4 n5=>((jA n5 p1 ((n5.length:Nat):Int)).bind fun v6=>(uL k v6 0)))
def aI4 (k:Nat) (p0:Tr):Option (Bool):=(match p0 with | .nil=>none | .node n1 n2 n3 n4 n5=>(iteS (decide (n1=80)) ((bI k (.node n1 n2 n3 n4 n5) false false false).bind fun v6=>(iteS v6 ((aIP k (.node n1 n2 n3 n4 n5) 0).bind fun v7=>(some v7)) (some false))) (some false)))
def aKA (k:Nat) (p0:Tr):Option (Int):=((rE k p0).bind fun (_v1,v2)=>(iteS (!decide (v2=0)) (some v2) ((jU k p0).bind fun v3=>(iteS (decide (60<v3)) (some 7) ((aI4 k p0).bind fun v4=>(iteS (!v4) (some 16) (some 0)))))))
def aIn (k:Nat) (p0:Tr):Option (Int):=((aKA k p0).bind fun v1=>(some v1))
def aHg (k:Nat) (p0:Tr):Option (Int):=((rE k p0).bind fun (_v1,v2)=>(iteS (!decide (v2=0)) (some v2) ((jU k p0).bind fun v3=>(iteS (decide (60<v3)) (some 7) ((eP k p0).bind fun v4=>(iteS (!v4) (some 16) (some 0)))))))
def aIN (k:Nat) (p0:Tr):Option (Int):=((aHg k p0).bind fun v1=>(some v1))
def aAY (_k:Nat) (p0:Bool) (p1:(List UInt8)):Option ((List UInt8)):=(iteS p0 ((catS ([40,32]:List UInt8) p1).bind fun v1=>((catS v1 ([32,41]:List UInt8)).bind fun v2=>(some v2))) (some p1))
def strings_Join (_:Nat) (p0:List (List UInt8)) (p1:List UInt8):Option (List UInt8):=if (Lib.join p0 p1).length≤140737488355328∧p0.length≤140737488355328 then some (Lib.join p0 p1) else none
mutual
def eO:Nat→Tr→Int→Option ((List UInt8))
 | 0,_,_=>none
 | k+1,p0,p1=>(match p0 with | .nil=>none | .node n1 n2 n3 n4 n5=>(iteS (decide (n1=5)) ((aU n5 0).bind fun v6=>((aU n5 1).bind fun v7=>((eO k v6 1).bind fun v8=>((catS v8 ([32,45,62,32]:List UInt8)).bind fun v9=>((eO k v7 0).bind fun v10=>((catS v9 v10).bind fun v11=>((aAY k (decide (0<p1)) v11).bind fun v12=>(some v12)))))))) (iteS (decide (n1=6)) ((aU n5 0).bind fun v13=>((aU n5 1).bind fun v14=>((eO k v13 2).bind fun v15=>((catS v15 ([32,42,32]:List UInt8)).bind fun v16=>((eO k v14 1).bind fun v17=>((catS v16 v17).bind fun v18=>((aAY k (decide (1<p1)) v18).bind fun v19=>(some v19)))))))) (iteS (decide (n1=1)) (some ([105,110,116]:List UInt8)) (iteS (decide (n1=2)) (some ([98,111,111,108]:List UInt8)) (iteS (decide (n1=3)) (some ([117,110,105,116]:List UInt8)) (iteS (decide (n1=7)) (mQ k (.node n1 n2 n3 n4 n5) ([]:List (List UInt8)) n5 0) (some n3))))))))
def mQ:Nat→Tr→(List (List UInt8))→(List Tr)→Int→Option ((List UInt8))
 | 0,_,_,_,_=>none
 | k20+1,w0_0,w0_1,w0_2,w0_3=>(iteS (decide (w0_3<((w0_2.length:Nat):Int))) ((aU w0_2 w0_3).bind fun v21=>(match v21 with | .nil=>none | .node _n22 _n23 n24 _n25 n26=>((catS n24 ([32,111,102,32]:List UInt8)).bind fun v27=>((aU n26 0).bind fun v28=>((eO k20 v28 0).bind fun v29=>((catS v27 v29).bind fun v30=>((aAt 16 w0_1 ([v30]:List (List UInt8))).bind fun v31=>(mQ k20 w0_0 v31 w0_2 (IntKind.i64.wrap (w0_3+1)))))))))) (match w0_0 with | .nil=>none | .node _n32 _n33 n34 _n35 _n36=>((catS ([109,117,32]:List UInt8) n34).bind fun v37=>((catS v37 ([32,123,32]:List UInt8)).bind fun v38=>((strings_Join k20 w0_1 ([32,124,32]:List UInt8)).bind fun v39=>((catS v38 v39).bind fun v40=>((catS v40 ([32,125]:List UInt8)).bind fun v41=>(some v41))))))))
end
def aA2 (k:Nat) (p0:Tr):Option ((List UInt8)×Int):=((aIN k p0).bind fun v1=>(iteS (!decide (v1=0)) (some (([]:List UInt8),v1)) ((eO k p0 0).bind fun v2=>(some (v2,0)))))
def jG (k:Nat) (p0:Tr):Option ((List UInt8)):=((aA2 k p0).bind fun (v1,_v2)=>(some v1))
def aHk (k:Nat) (p0:Tr):Option (Int):=((rE k p0).bind fun (_v1,v2)=>(iteS (!decide (v2=0)) (some v2) ((jU k p0).bind fun v3=>(iteS (decide (60<v3)) (some 7) ((fH k p0).bind fun v4=>(iteS (!v4) (some 16) (some 0)))))))
def aJh (k:Nat) (p0:Tr):Option (Int):=((aHk k p0).bind fun v1=>(some v1))
def mS (_k:Nat) (p0:Bool) (p1:(List UInt8)):Option ((List UInt8)):=(iteS p0 ((catS ([40,32]:List UInt8) p1).bind fun v1=>((catS v1 ([32,41]:List UInt8)).bind fun v2=>(some v2))) (some p1))
def mB (k:Nat) (p0:Tr):Option ((List UInt8)):=((aA2 k p0).bind fun (v1,_v2)=>(some v1))
mutual
def nO:Nat→(List Tr)→Option ((List UInt8))
 | 0,_=>none
 | k+1,p0=>(fF k ([]:List (List UInt8)) p0 0)
def fF:Nat→(List (List UInt8))→(List Tr)→Int→Option ((List UInt8))
 | 0,_,_,_=>none
 | k1+1,w0_0,w0_1,w0_2=>(iteS (decide (w0_2<((w0_1.length:Nat):Int))) ((aU w0_1 w0_2).bind fun v2=>(match v2 with | .nil=>none | .node _n3 _n4 n5 n6 n7=>((catS n5 ([32]:List UInt8)).bind fun v8=>((catS v8 n6).bind fun v9=>((catS v9 ([32,61,62,32]:List UInt8)).bind fun v10=>((aU n7 0).bind fun v11=>((bX k1 v11 0).bind fun v12=>((catS v10 v12).bind fun v13=>((aAt 16 w0_0 ([v13]:List (List UInt8))).bind fun v14=>(fF k1 v14 w0_1 (IntKind.i64.wrap (w0_2+1)))))))))))) ((strings_Join k1 w0_0 ([32,124,32]:List UInt8)).bind fun v15=>((catS v15 ([32,101,110,100]:List UInt8)).bind fun v16=>(some v16))))
def zF:Nat→Tr→Int→Option ((List UInt8))
 | 0,_,_=>none
 | k+1,p0,p1=>(match p0 with | .nil=>none | .node n1 n2 n3 n4 n5=>(iteS (decide (n2=1)) (fP k (.node n1 n2 n3 n4 n5) p1 2 2 ([32,43,32]:List UInt8)) (iteS (decide (n2=2)) (fP k (.node n1 n2 n3 n4 n5) p1 2 2 ([32,45,32]:List UInt8)) (iteS (decide (n2=3)) (fP k (.node n1 n2 n3 n4 n5) p1 3 3 ([32,42,32]:List UInt8)) (iteS (decide (n2=4)) (fP k (.node n1 n2 n3 n4 n5) p1 1 2 ([32,61,32]:List UInt8)) (fP k (.node n1 n2 n3 n4 n5) p1 1 2 ([32,60,32]:List UInt8)))))))
def fP:Nat→Tr→Int→Int→Int→(List UInt8)→Option ((List UInt8))
 | 0,_,_,_,_,_=>none
 | k6+1,c0_0,c0_1,c0_2,c0_3,c0_4=>(match c0_0 with | .nil=>none | .node _n7 _n8 _n9 _n10 n11=>((aU n11 0).bind fun v12=>((aU n11 1).bind fun v13=>((bX k6 v12 c0_3).bind fun v14=>((catS v14 c0_4).bind fun v15=>((bX k6 v13 (IntKind.i64.wrap (c0_2+1))).bind fun v16=>((catS v15 v16).bind fun v17=>((mS k6 (decide (c0_2<c0_1)) v17).bind fun v18=>(some v18)))))))))
def dB:Nat→Int→Int→Tr→Option ((List UInt8))
 | 0,_,_,_=>none
 | k+1,p0,p1,p2=>(match p2 with | .nil=>none | .node _n1 _n2 _n3 _n4 n5=>((aU n5 p0).bind fun v6=>((bX k v6 p1).bind fun v7=>(some v7))))
def bX:Nat→Tr→Int→Option ((List UInt8))
 | 0,_,_=>none
 | k+1,p0,p1=>(match p0 with | .nil=>none | .node n1 n2 n3 n4 n5=>(iteS (decide (n1=20)) ((sU k n2).bind fun v6=>(some v6)) (iteS (decide (n1=21)) (iteS (decide (n2=1)) (some ([116,114,117,101]:List UInt8)) (some ([102,97,108,115,101]:List UInt8))) (iteS (decide (n1=22)) (some ([40,32,41]:List UInt8)) (iteS (decide (n1=23)) (some n3) (iteS (decide (n1=26)) ((dB k 0 0 (.node n1 n2 n3 n4 n5)).bind fun v7=>((catS ([40,32]:List UInt8) v7).bind fun v8=>((catS v8 ([32,44,32]:List UInt8)).bind fun v9=>((dB k 1 0 (.node n1 n2 n3 n4 n5)).bind fun v10=>((catS v9 v10).bind fun v11=>((catS v11 ([32,41]:List UInt8)).bind fun v12=>(some v12))))))) (iteS (decide (n1=27)) ((dB k 0 5 (.node n1 n2 n3 n4 n5)).bind fun v13=>((catS ([35,49,32]:List UInt8) v13).bind fun v14=>(some v14))) (iteS (decide (n1=28)) ((dB k 0 5 (.node n1 n2 n3 n4 n5)).bind fun v15=>((catS ([35,50,32]:List UInt8) v15).bind fun v16=>(some v16))) (iteS (decide (n1=25)) ((dB k 0 4 (.node n1 n2 n3 n4 n5)).bind fun v17=>((catS v17 ([32]:List UInt8)).bind fun v18=>((dB k 1 5 (.node n1 n2 n3 n4 n5)).bind fun v19=>((catS v18 v19).bind fun v20=>((mS k (decide (4<p1)) v20).bind fun v21=>(some v21)))))) (iteS (decide (n1=31)) ((zF k (.node n1 n2 n3 n4 n5) p1).bind fun v22=>(some v22)) (iteS (decide (n1=24)) ((catS ([102,110,32,40,32]:List UInt8) n3).bind fun v23=>((catS v23 ([32,58,32]:List UInt8)).bind fun v24=>((aU n5 0).bind fun v25=>((mB k v25).bind fun v26=>((catS v24 v26).bind fun v27=>((catS v27 ([32,41,32,61,62,32]:List UInt8)).bind fun v28=>((dB k 1 0 (.node n1 n2 n3 n4 n5)).bind fun v29=>((catS v28 v29).bind fun v30=>((mS k (decide (0<p1)) v30).bind fun v31=>(some v31)))))))))) (iteS (decide (n1=29)) ((catS ([108,101,116,32]:List UInt8) n3).bind fun v32=>((catS v32 ([32,61,32]:List UInt8)).bind fun v33=>((dB k 0 0 (.node n1 n2 n3 n4 n5)).bind fun v34=>((catS v33 v34).bind fun v35=>((catS v35 ([32,105,110,32]:List UInt8)).bind fun v36=>((dB k 1 0 (.node n1 n2 n3 n4 n5)).bind fun v37=>((catS v36 v37).bind fun v38=>((catS v38 ([32,101,110,100]:List UInt8)).bind fun v39=>((mS k (decide (0<p1)) v39).bind fun v40=>(some v40)))))))))) (iteS (decide (n1=30)) ((dB k 0 0 (.node n1 n2 n3 n4 n5)).bind fun v41=>((catS ([105,102,32]:List UInt8) v41).bind fun v42=>((catS v42 ([32,116,104,101,110,32]:List UInt8)).bind fun v43=>((dB k 1 0 (.node n1 n2 n3 n4 n5)).bind fun v44=>((catS v43 v44).bind fun v45=>((catS v45 ([32,101,108,115,101,32]:List UInt8)).bind fun v46=>((dB k 2 0 (.node n1 n2 n3 n4 n5)).bind fun v47=>((catS v46 v47).bind fun v48=>((mS k (decide (0<p1)) v48).bind fun v49=>(some v49)))))))))) (iteS (decide (n1=32)) ((jA n5 1 ((n5.length:Nat):Int)).bind fun v50=>((dB k 0 0 (.node n1 n2 n3 n4 n5)).bind fun v51=>((catS ([99,97,115,101,32]:List UInt8) v51).bind fun v52=>((catS v52 ([32,111,102,32]:List UInt8)).bind fun v53=>((nO k v50).bind fun v54=>((catS v53 v54).bind fun v55=>((mS k (decide (0<p1)) v55).bind fun v56=>(some v56)))))))) ((aU n5 1).bind fun v57=>((jA n5 2 ((n5.length:Nat):Int)).bind fun v58=>((dB k 0 0 (.node n1 n2 n3 n4 n5)).bind fun v59=>((catS ([102,111,108,100,32]:List UInt8) v59).bind fun v60=>((catS v60 ([32,116,111,32]:List UInt8)).bind fun v61=>((mB k v57).bind fun v62=>((catS v61 v62).bind fun v63=>((catS v63 ([32,111,102,32]:List UInt8)).bind fun v64=>((nO k v58).bind fun v65=>((catS v64 v65).bind fun v66=>((mS k (decide (0<p1)) v66).bind fun v67=>(some v67))))))))))))))))))))))))))
end
def aGh (k:Nat) (p0:Tr):Option ((List UInt8)×Int):=((aJh k p0).bind fun v1=>(iteS (!decide (v1=0)) (some (([]:List UInt8),v1)) ((bX k p0 0).bind fun v2=>(some (v2,0)))))
def uF (k:Nat) (p0:Tr):Option ((List UInt8)):=((aGh k p0).bind fun (v1,_v2)=>(some v1))
def kN:Nat→(List (List UInt8))→(List (List UInt8))→Int→Option ((List UInt8))
 | 0,_,_,_=>none
 | k1+1,w0_0,w0_1,w0_2=>(iteS (decide (w0_2<((w0_1.length:Nat):Int))) ((aU w0_1 w0_2).bind fun v2=>(iteS (!decide (v2=([]:List UInt8))) ((aAt 16 w0_0 ([v2]:List (List UInt8))).bind fun v3=>(kN k1 v3 w0_1 (IntKind.i64.wrap (w0_2+1)))) (kN k1 w0_0 w0_1 (IntKind.i64.wrap (w0_2+1))))) ((strings_Join k1 w0_0 ([32]:List UInt8)).bind fun v4=>(some v4)))
def bR (k:Nat) (p0:(List (List UInt8))):Option ((List UInt8)):=(kN k ([]:List (List UInt8)) p0 0)
def oW:Nat→(List (List UInt8))→(List Tr)→Int→Option ((List UInt8))
 | 0,_,_,_=>none
 | k1+1,w0_0,w0_1,w0_2=>(iteS (decide (w0_2<((w0_1.length:Nat):Int))) ((aU w0_1 w0_2).bind fun v2=>(match v2 with | .nil=>none | .node _n3 _n4 n5 _n6 n7=>((aU n7 0).bind fun v8=>((jG k1 v8).bind fun v9=>((bR k1 ([n5,([111,102]:List UInt8),v9]:List (List UInt8))).bind fun v10=>((aAt 16 w0_0 ([v10]:List (List UInt8))).bind fun v11=>(oW k1 v11 w0_1 (IntKind.i64.wrap (w0_2+1))))))))) ((strings_Join k1 w0_0 ([32,124,32]:List UInt8)).bind fun v12=>(some v12)))
def aCD (k:Nat) (p0:(List Tr)):Option ((List UInt8)):=(oW k ([]:List (List UInt8)) p0 0)
mutual
def eD:Nat→Tr→Option ((List UInt8))
 | 0,_=>none
 | k+1,p0=>(match p0 with | .nil=>none | .node n1 _n2 n3 n4 n5=>(iteS (decide (n1=60)) ((aU n5 0).bind fun v6=>((jG k v6).bind fun v7=>((bR k ([([118,97,108]:List UInt8),n3,([58]:List UInt8),v7]:List (List UInt8))).bind fun v8=>(some v8)))) (iteS (decide (n1=61)) (iteS (decide (((n5.length:Nat):Int)=0)) ((bR k ([([116,121,112,101]:List UInt8),n3]:List (List UInt8))).bind fun v9=>(some v9)) ((aU n5 0).bind fun v10=>((jG k v10).bind fun v11=>((bR k ([([116,121,112,101]:List UInt8),n3,([61]:List UInt8),v11]:List (List UInt8))).bind fun v12=>(some v12))))) (iteS (decide (n1=62)) ((aCD k n5).bind fun v13=>((bR k ([([100,97,116,97,116,121,112,101]:List UInt8),n3,([61]:List UInt8),v13]:List (List UInt8))).bind fun v14=>(some v14))) (iteS (decide (n1=63)) ((aU n5 0).bind fun v15=>((eS k v15).bind fun v16=>((bR k ([([115,116,114,117,99,116,117,114,101]:List UInt8),n3,([58]:List UInt8),v16]:List (List UInt8))).bind fun v17=>(some v17)))) (iteS (decide (n1=64)) ((aU n5 0).bind fun v18=>((eS k v18).bind fun v19=>((bR k ([([105,110,99,108,117,100,101]:List UInt8),v19]:List (List UInt8))).bind fun v20=>(some v20)))) ((bR k ([([115,104,97,114,105,110,103,32,116,121,112,101]:List UInt8),n3,([61]:List UInt8),n4]:List (List UInt8))).bind fun v21=>(some v21))))))))
def aCy:Nat→(List Tr)→Option ((List UInt8))
 | 0,_=>none
 | k+1,p0=>(oP k ([]:List (List UInt8)) p0 0)
def oP:Nat→(List (List UInt8))→(List Tr)→Int→Option ((List UInt8))
 | 0,_,_,_=>none
 | k1+1,w0_0,w0_1,w0_2=>(iteS (decide (w0_2<((w0_1.length:Nat):Int))) ((aU w0_1 w0_2).bind fun v2=>((eD k1 v2).bind fun v3=>((aAt 16 w0_0 ([v3]:List (List UInt8))).bind fun v4=>(oP k1 v4 w0_1 (IntKind.i64.wrap (w0_2+1)))))) ((bR k1 w0_0).bind fun v5=>(some v5)))
def eS:Nat→Tr→Option ((List UInt8))
 | 0,_=>none
 | k+1,p0=>(match p0 with | .nil=>none | .node n1 _n2 n3 _n4 n5=>(iteS (decide (n1=51)) (some n3) (iteS (decide (n1=52)) ((aU n5 0).bind fun v6=>((aU n5 1).bind fun v7=>((eS k v6).bind fun v8=>((jG k v7).bind fun v9=>((bR k ([v8,([119,104,101,114,101,32,116,121,112,101]:List UInt8),n3,([61]:List UInt8),v9]:List (List UInt8))).bind fun v10=>(some v10)))))) ((aCy k n5).bind fun v11=>((bR k ([([115,105,103]:List UInt8),v11,([101,110,100]:List UInt8)]:List (List UInt8))).bind fun v12=>(some v12))))))
end
mutual
def xH:Nat→(List Tr)→Option ((List UInt8))
 | 0,_=>none
 | k+1,p0=>(kY k ([]:List (List UInt8)) p0 0)
def kY:Nat→(List (List UInt8))→(List Tr)→Int→Option ((List UInt8))
 | 0,_,_,_=>none
 | k1+1,w0_0,w0_1,w0_2=>(iteS (decide (w0_2<((w0_1.length:Nat):Int))) ((aU w0_1 w0_2).bind fun v2=>((cG k1 v2).bind fun v3=>((aAt 16 w0_0 ([v3]:List (List UInt8))).bind fun v4=>(kY k1 v4 w0_1 (IntKind.i64.wrap (w0_2+1)))))) ((bR k1 w0_0).bind fun v5=>(some v5)))
def fV:Nat→Tr→Option ((List UInt8))
 | 0,_=>none
 | k+1,p0=>(match p0 with | .nil=>none | .node n1 n2 n3 n4 n5=>(iteS (decide (n1=41)) (some n3) (iteS (decide (n1=42)) ((aU n5 0).bind fun v6=>((fV k v6).bind fun v7=>((bR k ([n3,([40]:List UInt8),v7,([41]:List UInt8)]:List (List UInt8))).bind fun v8=>(some v8)))) (iteS (decide (n1=43)) (iteS (decide (n2=1)) (uA k (.node n1 n2 n3 n4 n5) ([58,62]:List UInt8)) (uA k (.node n1 n2 n3 n4 n5) ([58]:List UInt8))) ((xH k n5).bind fun v20=>((bR k ([([115,116,114,117,99,116]:List UInt8),v20,([101,110,100]:List UInt8)]:List (List UInt8))).bind fun v21=>(some v21)))))))
def uA:Nat→Tr→(List UInt8)→Option ((List UInt8))
 | 0,_,_=>none
 | k9+1,c0_0,c0_1=>(match c0_0 with | .nil=>none | .node _n10 _n11 _n12 _n13 n14=>((aU n14 0).bind fun v15=>((aU n14 1).bind fun v16=>((fV k9 v15).bind fun v17=>((eS k9 v16).bind fun v18=>((bR k9 ([v17,c0_1,v18]:List (List UInt8))).bind fun v19=>(some v19)))))))
def cG:Nat→Tr→Option ((List UInt8))
 | 0,_=>none
 | k+1,p0=>(match p0 with | .nil=>none | .node n1 _n2 n3 n4 n5=>(iteS (decide (n1=70)) (iteS (decide (((n5.length:Nat):Int)=2)) ((aU n5 0).bind fun v6=>((aU n5 1).bind fun v7=>((jG k v6).bind fun v8=>((uF k v7).bind fun v9=>((bR k ([([118,97,108]:List UInt8),n3,([58]:List UInt8),v8,([61]:List UInt8),v9]:List (List UInt8))).bind fun v10=>(some v10)))))) ((aU n5 0).bind fun v11=>((uF k v11).bind fun v12=>((bR k ([([118,97,108]:List UInt8),n3,([61]:List UInt8),v12]:List (List UInt8))).bind fun v13=>(some v13))))) (iteS (decide (n1=71)) ((aU n5 0).bind fun v14=>((jG k v14).bind fun v15=>((bR k ([([116,121,112,101]:List UInt8),n3,([61]:List UInt8),v15]:List (List UInt8))).bind fun v16=>(some v16)))) (iteS (decide (n1=72)) ((aCD k n5).bind fun v17=>((bR k ([([100,97,116,97,116,121,112,101]:List UInt8),n3,([61]:List UInt8),v17]:List (List UInt8))).bind fun v18=>(some v18))) (iteS (decide (n1=73)) ((aU n5 0).bind fun v19=>((fV k v19).bind fun v20=>((bR k ([([115,116,114,117,99,116,117,114,101]:List UInt8),n3,([61]:List UInt8),v20]:List (List UInt8))).bind fun v21=>(some v21)))) (iteS (decide (n1=74)) ((aU n5 0).bind fun v22=>((eS k v22).bind fun v23=>((bR k ([([115,105,103,110,97,116,117,114,101]:List UInt8),n3,([61]:List UInt8),v23]:List (List UInt8))).bind fun v24=>(some v24)))) (iteS (decide (n1=75)) ((aU n5 0).bind fun v25=>((aU n5 1).bind fun v26=>((eS k v25).bind fun v27=>((fV k v26).bind fun v28=>((bR k ([([102,117,110,99,116,111,114]:List UInt8),n3,([40]:List UInt8),n4,([58]:List UInt8),v27,([41]:List UInt8),([61]:List UInt8),v28]:List (List UInt8))).bind fun v29=>(some v29)))))) (iteS (decide (n1=76)) ((bR k ([([111,112,101,110]:List UInt8),n3]:List (List UInt8))).bind fun v30=>(some v30)) ((bR k ([([105,110,99,108,117,100,101]:List UInt8),n3]:List (List UInt8))).bind fun v31=>(some v31))))))))))
end
def aCX:Nat→List Tr→List UInt8→Int→Option (List UInt8)
 | 0,_,_,_=>none
 | k+1,ks,acc,i=>iteS (decide (i<((ks.length:Nat):Int))) ((aU ks i).bind fun v=>(cG k v).bind fun s=>if acc.length+(s.length+1)≤140737488355328 then aCX k ks (acc++(s++[10])) (IntKind.i64.wrap (i+1)) else none) (some acc)
def aIX (k:Nat) (p0:Tr):Option ((List UInt8)×Int):=(aIn k p0).bind fun e=>if e=0 then (match p0 with | .nil=>none | .node _ _ _ _ ks=>(aCX k ks [] 0).bind fun s=>if 16384<s.length then some ([],3) else some (s,0)) else some ([],e)
def aKG (k:Nat) (p0:(List UInt8)):Option ((List UInt8)×Int×Int):=((aLC k p0).bind fun (v1,v2,v3)=>(iteS (!decide (v3=0)) (some (([]:List UInt8),v2,v3)) ((aIX k v1).bind fun (v4,v5)=>(some (v4,0,v5)))))
def qY (k:Nat):Option (Bool):=((aKG k ([118,97,108,32,120,61,40,49,41]:List UInt8)).bind fun (v1,v2,v3)=>(iteS (decide (v1=([118,97,108,32,120,32,61,32,49,10]:List UInt8))) (iteS (decide (v2=0)) (some (decide (v3=0))) (some false)) (some false)))
mutual
def rZ:Nat→(List Tr)→(List Tr)→Option (Bool)
 | 0,_,_=>none
 | k+1,p0,p1=>(iteS (!decide (((p0.length:Nat):Int)=((p1.length:Nat):Int))) (some false) (fW k p1 p0 0))
def fW:Nat→(List Tr)→(List Tr)→Int→Option (Bool)
 | 0,_,_,_=>none
 | k1+1,w0_0,w0_1,w0_2=>(iteS (decide (w0_2<((w0_1.length:Nat):Int))) ((aU w0_1 w0_2).bind fun v2=>((aU w0_0 w0_2).bind fun v3=>((qZ k1 v2 v3).bind fun v4=>(iteS (!v4) (some false) (fW k1 w0_0 w0_1 (IntKind.i64.wrap (w0_2+1))))))) (some true))
def qZ:Nat→Tr→Tr→Option (Bool)
 | 0,_,_=>none
 | k+1,p0,p1=>(match p0 with | .nil=>(match p1 with | .nil=>(some true) | .node _n6 _n7 _n8 _n9 _n10=>(some false)) | .node n1 n2 n3 n4 n5=>(match p1 with | .nil=>(some false) | .node n11 n12 n13 n14 n15=>(iteS (decide (n1=n11)) (iteS (decide (n2=n12)) (iteS (decide (n3=n13)) (iteS (decide (n4=n14)) ((rZ k n5 n15).bind fun v16=>(some v16)) (some false)) (some false)) (some false)) (some false))))
end
def mN:Nat→(List (Int×Int×(List UInt8)×(List UInt8)×(List Int)))→Int→(List (Int×Int×(List UInt8)×(List UInt8)×(List Int)))→Option ((List (Int×Int×(List UInt8)×(List UInt8)×(List Int))))
 | 0,_,_,_=>none
 | k1+1,w0_0,w0_1,w0_2=>(iteS (decide (w0_1<((w0_0.length:Nat):Int))) (iteS (decide (w0_1<120)) ((aU w0_0 w0_1).bind fun v2=>((jA v2.2.2.1 0 (if 130<((v2.2.2.1.length:Nat):Int) then 130 else ((v2.2.2.1.length:Nat):Int))).bind fun v3=>((jA v2.2.2.2.1 0 (if 130<((v2.2.2.2.1.length:Nat):Int) then 130 else ((v2.2.2.2.1.length:Nat):Int))).bind fun v4=>((jA v2.2.2.2.2 0 (if 12<((v2.2.2.2.2.length:Nat):Int) then 12 else ((v2.2.2.2.2.length:Nat):Int))).bind fun v5=>((aAt 8 ([]:List Int) v5).bind fun v6=>((aAt 72 w0_2 ([(v2.1,v2.2.1,v3,v4,v6)]:List (Int×Int×(List UInt8)×(List UInt8)×(List Int)))).bind fun v7=>(mN k1 w0_0 (IntKind.i64.wrap (w0_1+1)) v7))))))) (some w0_2)) (some w0_2))
def aDp (k:Nat) (p0:(List (Int×Int×(List UInt8)×(List UInt8)×(List Int)))):Option ((List (Int×Int×(List UInt8)×(List UInt8)×(List Int)))):=(mN k p0 0 ([]:List (Int×Int×(List UInt8)×(List UInt8)×(List Int))))
def hG:Nat→(List Bool)→Bool→Int→Option (Int)
 | 0,_,_,_=>none
 | k1+1,w0_0,w0_1,w0_2=>(iteS (decide (w0_2<((w0_0.length:Nat):Int))) ((aU w0_0 w0_2).bind fun v2=>(iteS (w0_1 == v2) (some w0_2) (hG k1 w0_0 w0_1 (IntKind.i64.wrap (w0_2+1))))) (some (-1)))
def aBS (k:Nat) (p0:(List Bool)) (p1:Bool):Option (Int):=(hG k p0 p1 0)
def qF (k:Nat) (p0:(List Bool)) (p1:Bool):Option (Bool):=((aBS k p0 p1).bind fun v1=>(some (decide (0≤v1))))
mutual
def oL:Nat→(List (Int×Int×(List UInt8)×(List UInt8)×(List Int)))→(List Tr)→(List Bool)→Int→Option (Tr×Int)
 | 0,_,_,_,_=>none
 | k3+1,w0_0,w0_1,w0_2,w0_3=>(iteS (decide (w0_3<((w0_0.length:Nat):Int))) ((aU w0_0 w0_3).bind fun v4=>(oQ k3 w0_0 w0_1 w0_2 w0_3 w0_3 v4.2.2.2.2 0 v4.1 v4.2.1 v4.2.2.1 v4.2.2.2.1 ([]:List Tr))) ((jA w0_2 0 (IntKind.i64.wrap (((w0_0.length:Nat):Int) - 1))).bind fun v12=>((qF k3 v12 false).bind fun v13=>(iteS v13 (some (.nil,16)) (if 0≤(IntKind.i64.wrap (((w0_0.length:Nat):Int) - 1))∧(IntKind.i64.wrap (((w0_0.length:Nat):Int) - 1))<((w0_1.length:Nat):Int) then ((aU w0_1 (IntKind.i64.wrap (((w0_0.length:Nat):Int) - 1))).bind fun v14=>(some (v14,0))) else none)))))
def oQ:Nat→(List (Int×Int×(List UInt8)×(List UInt8)×(List Int)))→(List Tr)→(List Bool)→Int→Int→(List Int)→Int→Int→Int→(List UInt8)→(List UInt8)→(List Tr)→Option (Tr×Int)
 | 0,_,_,_,_,_,_,_,_,_,_,_,_=>none
 | k5+1,w1_0,w1_1,w1_2,w1_3,w1_4,w1_5,w1_6,w1_7,w1_8,w1_9,w1_10,w1_11=>(iteS (decide (w1_6<((w1_5.length:Nat):Int))) ((aU w1_5 w1_6).bind fun v6=>(iteS (decide (v6<0)) (some (.nil,16)) (iteS (decide (w1_3≤v6)) (some (.nil,16)) (if 0≤v6∧v6<((w1_2.length:Nat):Int) then ((aU w1_2 v6).bind fun v7=>(iteS v7 (some (.nil,16)) (if 0≤v6∧v6<((w1_2.length:Nat):Int) then ((aU w1_2 v6).bind fun _u8=>(if 0≤v6∧v6<((w1_1.length:Nat):Int) then ((aU w1_1 v6).bind fun v9=>((aAt 8 w1_11 ([v9]:List Tr)).bind fun v10=>(oQ k5 w1_0 w1_1 (w1_2.set (v6).toNat true) w1_3 w1_4 w1_5 (IntKind.i64.wrap (w1_6+1)) w1_7 w1_8 w1_9 w1_10 v10))) else none)) else none))) else none)))) (if 0≤w1_3∧w1_3<((w1_1.length:Nat):Int) then ((aU w1_1 w1_3).bind fun _u11=>(oL k5 w1_0 (w1_1.set (w1_3).toNat (.node w1_7 w1_8 w1_9 w1_10 w1_11)) w1_2 (IntKind.i64.wrap (w1_4+1)))) else none))
end
def aFG (k:Nat) (p0:(List (Int×Int×(List UInt8)×(List UInt8)×(List Int)))):Option (Tr×Int):=(iteS (decide (((p0.length:Nat):Int)=0)) (some (.nil,1)) (iteS (decide (8192<((p0.length:Nat):Int))) (some (.nil,3)) ((mkL 8 (Tr.nil:Tr) ((p0.length:Nat):Int)).bind fun v1=>((mkL 1 (false:Bool) ((p0.length:Nat):Int)).bind fun v2=>(oL k p0 v1 v2 0)))))
def aGS (k:Nat) (p0:Tr):Option (Int):=((rE k p0).bind fun (_v1,v2)=>(iteS (!decide (v2=0)) (some v2) ((jU k p0).bind fun v3=>(iteS (decide (60<v3)) (some 7) ((mU k p0).bind fun v4=>(iteS (!v4) (some 16) (some 0)))))))
def aLX (k:Nat) (p0:Tr):Option (Int):=((aGS k p0).bind fun v1=>(some v1))
def rH (k:Nat) (p0:Tr):Option ((List UInt8)×Int):=((aLX k p0).bind fun v1=>(iteS (!decide (v1=0)) (some (([]:List UInt8),v1)) ((fV k p0).bind fun v2=>(some (v2,0)))))
def aHT (k:Nat) (p0:Tr):Option ((List UInt8)×Int):=((rH k p0).bind fun (v1,v2)=>(some (v1,v2)))
def lD (_k:Nat) (p0:bF) (p1:Int) (p2:Int) (p3:Tr):Option (Tr×Int×Int×bF×Int×Int):=(iteS (!decide (p2=0)) (some (.nil,p1,p2,p0,p1,p2)) (some (p3,p1,0,p0,p1,p2)))
def aHD (k:Nat) (p0:bF) (p1:Int):Option (Tr×Int×Int):=((aAk k p0 p1).bind fun (v1,v2,v3)=>((dN k v1 v2 v3).bind fun (v4,v5,v6,v7)=>((lD k v5 v6 v7 v4).bind fun (v8,v9,v10,_v11,_v12,_v13)=>(some (v8,v9,v10)))))
def aHB (k:Nat) (p0:Tr):Option (Int):=((rE k p0).bind fun (_v1,v2)=>(iteS (!decide (v2=0)) (some v2) ((jU k p0).bind fun v3=>(iteS (decide (60<v3)) (some 7) ((kC k p0).bind fun v4=>(iteS (!v4) (some 16) (some 0)))))))
def aLM (k:Nat) (p0:Tr):Option (Int):=((aHB k p0).bind fun v1=>(some v1))
def nL (k:Nat) (p0:Tr):Option ((List UInt8)×Int):=((aLM k p0).bind fun v1=>(iteS (!decide (v1=0)) (some (([]:List UInt8),v1)) ((eS k p0).bind fun v2=>(some (v2,0)))))
def aH5 (k:Nat) (p0:Tr):Option ((List UInt8)×Int):=((nL k p0).bind fun (v1,v2)=>(some (v1,v2)))
def aHY (k:Nat) (p0:bF) (p1:Int):Option (Tr×Int×Int):=((aAk k p0 p1).bind fun (v1,v2,v3)=>((cF k v1 v2 v3).bind fun (v4,v5,v6,v7)=>((lD k v5 v6 v7 v4).bind fun (v8,v9,v10,_v11,_v12,_v13)=>(some (v8,v9,v10)))))
mutual
def pD:Nat→Tr→bF→Int→Tr→Int→Int→Option (Bool)
 | 0,_,_,_,_,_,_=>none
 | k14+1,c0_0,c0_1,c0_2,c0_3,c0_4,c0_5=>(iteS (!decide (c0_2=0)) (some false) (iteS (!decide (c0_5=0)) (some false) (iteS (!decide (c0_4=((c0_1.length:Nat):Int))) (some false) ((qZ k14 c0_0 c0_3).bind fun v15=>(iteS (!v15) (some false) (jY k14 c0_0))))))
def jY:Nat→Tr→Option (Bool)
 | 0,_=>none
 | k16+1,c1_0=>((aH5 k16 c1_0).bind fun (v17,v18)=>(iteS (decide (v18=0)) ((rY k16 v17).bind fun (v19,_v20,v21)=>((aHY k16 v19 0).bind fun (v22,v23,v24)=>(iteS (decide (v21=3)) ((qY k16).bind fun v25=>(some v25)) (iteS (!decide (v21=0)) (some false) (iteS (!decide (v24=0)) (some false) (iteS (!decide (v23=((v19.length:Nat):Int))) (some false) ((qZ k16 c1_0 v22).bind fun v26=>(iteS (!v26) (some false) ((qY k16).bind fun v27=>(some v27)))))))))) ((qY k16).bind fun v28=>(some v28))))
end
def uM (k:Nat) (p0:(List (Int×Int×(List UInt8)×(List UInt8)×(List Int)))):Option (Bool):=((aDp k p0).bind fun v1=>((aFG k v1).bind fun (v2,v3)=>(iteS (!decide (v3=0)) ((qY k).bind fun v4=>(some v4)) ((aHT k v2).bind fun (v5,v6)=>(iteS (decide (v6=0)) ((rY k v5).bind fun (v7,_v8,v9)=>((aHD k v7 0).bind fun (v10,v11,v12)=>(iteS (decide (v9=3)) ((qY k).bind fun v13=>(some v13)) (pD k v2 v7 v9 v10 v11 v12)))) (jY k v2))))))
end Go.Proofs.YtjhfgiieicloeaaGreatDoor

