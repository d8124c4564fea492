/- Joined texts: KFn. -/
import Derived.Test.YtjhfgiieicloeaaGreatDoorGd
import Derived.Lib.Strings
import Derived.Lib.Slices
import Derived.Lib.Walk
import Derived.Lib.Bytealg
import Derived.Lib.Join
/- What the Go functions come to, as Lean functions with fuel. Printed by sxgen.py of this session. -/
namespace Go.Proofs.YtjhfgiieicloeaaGreatDoor
open Go Go.Am Go.Sx
abbrev bI:=List (Int×List UInt8×Int×Int)
abbrev jD:Ty:=.list false (.pair (.int .i64) (.pair .str (.pair (.int .i64) (.int .i64))))
def utf8_ValidRune (_k:Nat) (p0:Int):Option (Bool):=(iteS (decide (0≤p0)) (iteS (decide (p0<55296)) (some true) (iteS (decide (57343<p0)) (iteS (decide (p0≤1114111)) (some true) (some false)) (some false))) (iteS (decide (57343<p0)) (iteS (decide (p0≤1114111)) (some true) (some false)) (some false)))
def oS (k:Nat) (p0:Int):Option (Int):=(iteS (decide (65≤p0)) (iteS (decide (p0≤90)) (some 1) (iteS (decide (97≤p0)) (iteS (decide (p0≤122)) (some 1) (iteS (decide (p0=95)) (some 1) (iteS (decide (48≤p0)) (iteS (decide (p0≤57)) (some 2) (iteS (decide (p0=32)) (some 3) (iteS (decide (p0=9)) (some 3) (iteS (decide (p0=10)) (some 3) (iteS (decide (128≤p0)) (iteS (!decide (p0=65533)) ((utf8_ValidRune k p0).bind fun v1=>(iteS v1 (some 1) (some 0))) (some 0)) (some 0)))))) (iteS (decide (p0=32)) (some 3) (iteS (decide (p0=9)) (some 3) (iteS (decide (p0=10)) (some 3) (iteS (decide (128≤p0)) (iteS (!decide (p0=65533)) ((utf8_ValidRune k p0).bind fun v2=>(iteS v2 (some 1) (some 0))) (some 0)) (some 0)))))))) (iteS (decide (p0=95)) (some 1) (iteS (decide (48≤p0)) (iteS (decide (p0≤57)) (some 2) (iteS (decide (p0=32)) (some 3) (iteS (decide (p0=9)) (some 3) (iteS (decide (p0=10)) (some 3) (iteS (decide (128≤p0)) (iteS (!decide (p0=65533)) ((utf8_ValidRune k p0).bind fun v3=>(iteS v3 (some 1) (some 0))) (some 0)) (some 0)))))) (iteS (decide (p0=32)) (some 3) (iteS (decide (p0=9)) (some 3) (iteS (decide (p0=10)) (some 3) (iteS (decide (128≤p0)) (iteS (!decide (p0=65533)) ((utf8_ValidRune k p0).bind fun v4=>(iteS v4 (some 1) (some 0))) (some 0)) (some 0))))))))) (iteS (decide (97≤p0)) (iteS (decide (p0≤122)) (some 1) (iteS (decide (p0=95)) (some 1) (iteS (decide (48≤p0)) (iteS (decide (p0≤57)) (some 2) (iteS (decide (p0=32)) (some 3) (iteS (decide (p0=9)) (some 3) (iteS (decide (p0=10)) (some 3) (iteS (decide (128≤p0)) (iteS (!decide (p0=65533)) ((utf8_ValidRune k p0).bind fun v5=>(iteS v5 (some 1) (some 0))) (some 0)) (some 0)))))) (iteS (decide (p0=32)) (some 3) (iteS (decide (p0=9)) (some 3) (iteS (decide (p0=10)) (some 3) (iteS (decide (128≤p0)) (iteS (!decide (p0=65533)) ((utf8_ValidRune k p0).bind fun v6=>(iteS v6 (some 1) (some 0))) (some 0)) (some 0)))))))) (iteS (decide (p0=95)) (some 1) (iteS (decide (48≤p0)) (iteS (decide (p0≤57)) (some 2) (iteS (decide (p0=32)) (some 3) (iteS (decide (p0=9)) (some 3) (iteS (decide (p0=10)) (some 3) (iteS (decide (128≤p0)) (iteS (!decide (p0=65533)) ((utf8_ValidRune k p0).bind fun v7=>(iteS v7 (some 1) (some 0))) (some 0)) (some 0)))))) (iteS (decide (p0=32)) (some 3) (iteS (decide (p0=9)) (some 3) (iteS (decide (p0=10)) (some 3) (iteS (decide (128≤p0)) (iteS (!decide (p0=65533)) ((utf8_ValidRune k p0).bind fun v8=>(iteS v8 (some 1) (some 0))) (some 0)) (some 0)))))))))
def cY:Nat→(List UInt8)→Int→Option (Int×Int)
 | 0,_,_=>none
 | k1+1,w0_0,w0_1=>(iteS (decide ((w0_1:Int).toNat<w0_0.length)) (iteS (decide ((((fY w0_0 ((w0_1:Int).toNat)).1:Nat):Int)=65533)) (some ((((w0_1:Int).toNat:Nat):Int),4)) (iteS (decide ((((fY w0_0 ((w0_1:Int).toNat)).1:Nat):Int)<32)) ((oS k1 (((fY w0_0 ((w0_1:Int).toNat)).1:Nat):Int)).bind fun v2=>(iteS (!decide (v2=3)) (some ((((w0_1:Int).toNat:Nat):Int),4)) (iteS (decide ((((fY w0_0 ((w0_1:Int).toNat)).1:Nat):Int)=127)) (some ((((w0_1:Int).toNat:Nat):Int),4)) (cY k1 w0_0 (((w0_1:Int).toNat+(fY w0_0 ((w0_1:Int).toNat)).2:Nat):Int))))) (iteS (decide ((((fY w0_0 ((w0_1:Int).toNat)).1:Nat):Int)=127)) (some ((((w0_1:Int).toNat:Nat):Int),4)) (cY k1 w0_0 (((w0_1:Int).toNat+(fY w0_0 ((w0_1:Int).toNat)).2:Nat):Int))))) (some (0,0)))
def rA (k:Nat) (p0:(List UInt8)):Option (Int×Int):=(iteS (decide (16384<((p0.length:Nat):Int))) (some (0,3)) (cY k p0 0))
def aA5 (k:Nat) (p0:Int):Option (Bool):=((oS k p0).bind fun v1=>(some (decide (v1=3))))
def kR:Nat→(List UInt8)→(List UInt8)→Int→Option (Int)
 | 0,_,_,_=>none
 | k1+1,w0_0,w0_1,w0_2=>(iteS (decide ((w0_2:Int).toNat<w0_1.length)) ((aA5 k1 (((fY w0_1 ((w0_2:Int).toNat)).1:Nat):Int)).bind fun v2=>(iteS (!v2) (some (((w0_2:Int).toNat:Nat):Int)) (kR k1 w0_0 w0_1 (((w0_2:Int).toNat+(fY w0_1 ((w0_2:Int).toNat)).2:Nat):Int)))) (some ((w0_0.length:Nat):Int)))
def sY (k:Nat) (p0:(List UInt8)):Option (Int):=(kR k p0 p0 0)
def stringslite_HasPrefix (_k:Nat) (p0:(List UInt8)) (p1:(List UInt8)):Option (Bool):=(iteS (decide (((p1.length:Nat):Int)≤((p0.length:Nat):Int))) ((kA p0 0 ((p1.length:Nat):Int)).bind fun v1=>(some (decide (v1=p1)))) (some false))
def strings_HasPrefix (k:Nat) (p0:(List UInt8)) (p1:(List UInt8)):Option (Bool):=((stringslite_HasPrefix k p0 p1).bind fun v1=>(some v1))
def iZ:Nat→(List UInt8)→Int→Int→Option (Int)
 | 0,_,_,_=>none
 | k1+1,w0_0,w0_1,w0_2=>(iteS (decide (w0_2<((w0_0.length:Nat):Int))) ((kA w0_0 w0_2 ((w0_0.length:Nat):Int)).bind fun v2=>((strings_HasPrefix k1 v2 ([40,42]:List UInt8)).bind fun v3=>(iteS v3 (iZ k1 w0_0 (IntKind.i64.wrap (w0_1+1)) (IntKind.i64.wrap (w0_2+2))) ((kA w0_0 w0_2 ((w0_0.length:Nat):Int)).bind fun v4=>((strings_HasPrefix k1 v4 ([42,41]:List UInt8)).bind fun v5=>(iteS v5 (iteS (decide ((IntKind.i64.wrap (w0_1 - 1))=0)) (some (IntKind.i64.wrap (w0_2+2))) (iZ k1 w0_0 (IntKind.i64.wrap (w0_1 - 1)) (IntKind.i64.wrap (w0_2+2)))) (iZ k1 w0_0 w0_1 (IntKind.i64.wrap (w0_2+1))))))))) (some 0))
def zG (k:Nat) (p0:(List UInt8)):Option (Int):=(iZ k p0 0 0)
def wI:Nat→(List UInt8)→Int→Option (Int)
 | 0,_,_=>none
 | _k1+1,w0_0,w0_1=>(iteS (decide ((w0_1:Int).toNat<w0_0.length)) (some (((fY w0_0 ((w0_1:Int).toNat)).1:Nat):Int)) (some 0))
def aDk (k:Nat) (p0:(List UInt8)):Option (Int):=(wI k p0 0)
def aAT (k:Nat) (p0:Int):Option (Bool):=((oS k p0).bind fun v1=>(iteS (decide (v1=1)) (some true) (iteS (decide (v1=2)) (some true) (some (decide (p0=39))))))
def fZ:Nat→(List UInt8)→(List UInt8)→Int→Option (Int)
 | 0,_,_,_=>none
 | k1+1,w0_0,w0_1,w0_2=>(iteS (decide ((w0_2:Int).toNat<w0_1.length)) ((aAT k1 (((fY w0_1 ((w0_2:Int).toNat)).1:Nat):Int)).bind fun v2=>(iteS (!v2) (some (((w0_2:Int).toNat:Nat):Int)) (fZ k1 w0_0 w0_1 (((w0_2:Int).toNat+(fY w0_1 ((w0_2:Int).toNat)).2:Nat):Int)))) (some ((w0_0.length:Nat):Int)))
def oM (k:Nat) (p0:(List UInt8)):Option (Int):=(fZ k p0 p0 0)
def aDv (_k:Nat):Option ((List (List UInt8))):=(some ([([118,97,108]:List UInt8),([116,121,112,101]:List UInt8),([100,97,116,97,116,121,112,101]:List UInt8),([115,116,114,117,99,116,117,114,101]:List UInt8),([115,105,103,110,97,116,117,114,101]:List UInt8),([102,117,110,99,116,111,114]:List UInt8),([111,112,101,110]:List UInt8),([105,110,99,108,117,100,101]:List UInt8),([115,116,114,117,99,116]:List UInt8),([101,110,100]:List UInt8),([115,105,103]:List UInt8),([119,104,101,114,101]:List UInt8),([115,104,97,114,105,110,103]:List UInt8),([102,110]:List UInt8),([108,101,116]:List UInt8),([105,110]:List UInt8),([105,102]:List UInt8),([116,104,101,110]:List UInt8),([101,108,115,101]:List UInt8),([99,97,115,101]:List UInt8),([102,111,108,100]:List UInt8),([111,102]:List UInt8),([116,111]:List UInt8),([105,110,116]:List UInt8),([98,111,111,108]:List UInt8),([117,110,105,116]:List UInt8),([116,114,117,101]:List UInt8),([102,97,108,115,101]:List UInt8),([109,117]:List UInt8)]:List (List UInt8)))
def gC:Nat→(List (List UInt8))→(List UInt8)→Int→Option (Int)
 | 0,_,_,_=>none
 | k1+1,w0_0,w0_1,w0_2=>(iteS (decide (w0_2<((w0_0.length:Nat):Int))) ((aZ w0_0 w0_2).bind fun v2=>(iteS (decide (w0_1=v2)) (some w0_2) (gC k1 w0_0 w0_1 (IntKind.i64.wrap (w0_2+1))))) (some (-1)))
def slices_Index (k:Nat) (p0:(List (List UInt8))) (p1:(List UInt8)):Option (Int):=(gC k p0 p1 0)
def slices_Contains (k:Nat) (p0:(List (List UInt8))) (p1:(List UInt8)):Option (Bool):=((slices_Index k p0 p1).bind fun v1=>(some (decide (0≤v1))))
def rF (k:Nat) (p0:(List UInt8)):Option (Bool):=((aDv k).bind fun v1=>((slices_Contains k v1 p0).bind fun v2=>(some v2)))
def utf8_word (_k:Nat) (p0:(List UInt8)):Option (Int):=((aZ p0 0).bind fun c1=>((aZ p0 1).bind fun c2=>((shI .shl .u64 (IntKind.u64.wrap ((c2.toNat:Nat):Int)) 8).bind fun v3=>((qC .or .u64 (IntKind.u64.wrap ((c1.toNat:Nat):Int)) v3).bind fun v4=>((aZ p0 2).bind fun c5=>((shI .shl .u64 (IntKind.u64.wrap ((c5.toNat:Nat):Int)) 16).bind fun v6=>((qC .or .u64 v4 v6).bind fun v7=>((aZ p0 3).bind fun c8=>((shI .shl .u64 (IntKind.u64.wrap ((c8.toNat:Nat):Int)) 24).bind fun v9=>((qC .or .u64 v7 v9).bind fun v10=>((aZ p0 4).bind fun c11=>((shI .shl .u64 (IntKind.u64.wrap ((c11.toNat:Nat):Int)) 32).bind fun v12=>((qC .or .u64 v10 v12).bind fun v13=>((aZ p0 5).bind fun c14=>((shI .shl .u64 (IntKind.u64.wrap ((c14.toNat:Nat):Int)) 40).bind fun v15=>((qC .or .u64 v13 v15).bind fun v16=>((aZ p0 6).bind fun c17=>((shI .shl .u64 (IntKind.u64.wrap ((c17.toNat:Nat):Int)) 48).bind fun v18=>((qC .or .u64 v16 v18).bind fun v19=>((aZ p0 7).bind fun c20=>((shI .shl .u64 (IntKind.u64.wrap ((c20.toNat:Nat):Int)) 56).bind fun v21=>((qC .or .u64 v19 v21).bind fun v22=>(some v22)))))))))))))))))))))))
mutual
def aV:Nat→(List UInt8)→Option (Bool)
 | 0,_=>none
 | k1+1,w0_0=>(iteS (decide (0<((w0_0.length:Nat):Int))) ((aZ w0_0 0).bind fun c2=>(iteS (decide (((c2.toNat:Nat):Int)<128)) ((kA w0_0 1 ((w0_0.length:Nat):Int)).bind fun v3=>(iteS (decide (8<((v3.length:Nat):Int))) ((utf8_word k1 v3).bind fun v4=>((qC .and .u64 v4 9259542123273814144).bind fun v5=>(iteS (decide (v5=0)) ((kA v3 8 ((v3.length:Nat):Int)).bind fun v6=>(iteS (decide (16<((v6.length:Nat):Int))) ((kA v6 8 ((v6.length:Nat):Int)).bind fun v7=>((utf8_word k1 v6).bind fun v8=>((utf8_word k1 v7).bind fun v9=>((qC .or .u64 v8 v9).bind fun v10=>((qC .and .u64 v10 9259542123273814144).bind fun v11=>(iteS (decide (v11=0)) ((kA v6 16 ((v6.length:Nat):Int)).bind fun v12=>(dH k1 v12)) (aV k1 v6))))))) (aV k1 v6))) (aV k1 v3)))) (aV k1 v3))) ((aZ aYC ((c2.toNat:Nat):Int)).bind fun v26=>((qC .and .u8 v26 7).bind fun v27=>((shI .shr .u8 v26 4).bind fun v28=>((aZ aYz v28).bind fun v29=>(iteS (decide ((IntKind.i64.wrap v27)=2)) (iteS (decide (((w0_0.length:Nat):Int)<2)) (some false) ((aZ w0_0 1).bind fun c30=>(iteS (decide (((c30.toNat:Nat):Int)<v29.1)) (some false) ((aZ w0_0 1).bind fun c31=>(iteS (decide (v29.2<((c31.toNat:Nat):Int))) (some false) ((kA w0_0 2 ((w0_0.length:Nat):Int)).bind fun v32=>(aV k1 v32))))))) (iteS (decide ((IntKind.i64.wrap v27)=3)) (iteS (decide (((w0_0.length:Nat):Int)<3)) (some false) ((aZ w0_0 1).bind fun c33=>(iteS (decide (((c33.toNat:Nat):Int)<v29.1)) (some false) ((aZ w0_0 1).bind fun c34=>(iteS (decide (v29.2<((c34.toNat:Nat):Int))) (some false) ((aZ w0_0 2).bind fun c35=>(iteS (decide (((c35.toNat:Nat):Int)<128)) (some false) ((aZ w0_0 2).bind fun c36=>(iteS (decide (191<((c36.toNat:Nat):Int))) (some false) ((kA w0_0 3 ((w0_0.length:Nat):Int)).bind fun v37=>(aV k1 v37))))))))))) (iteS (decide ((IntKind.i64.wrap v27)=4)) (iteS (decide (((w0_0.length:Nat):Int)<4)) (some false) ((aZ w0_0 1).bind fun c38=>(iteS (decide (((c38.toNat:Nat):Int)<v29.1)) (some false) ((aZ w0_0 1).bind fun c39=>(iteS (decide (v29.2<((c39.toNat:Nat):Int))) (some false) ((aZ w0_0 2).bind fun c40=>(iteS (decide (((c40.toNat:Nat):Int)<128)) (some false) ((aZ w0_0 2).bind fun c41=>(iteS (decide (191<((c41.toNat:Nat):Int))) (some false) ((aZ w0_0 3).bind fun c42=>(iteS (decide (((c42.toNat:Nat):Int)<128)) (some false) ((aZ w0_0 3).bind fun c43=>(iteS (decide (191<((c43.toNat:Nat):Int))) (some false) ((kA w0_0 4 ((w0_0.length:Nat):Int)).bind fun v44=>(aV k1 v44))))))))))))))) (some false)))))))))) (some true))
def dH:Nat→(List UInt8)→Option (Bool)
 | 0,_=>none
 | k13+1,w1_0=>(iteS (decide (32<((w1_0.length:Nat):Int))) ((kA w1_0 8 ((w1_0.length:Nat):Int)).bind fun v14=>((kA w1_0 16 ((w1_0.length:Nat):Int)).bind fun v15=>((kA w1_0 24 ((w1_0.length:Nat):Int)).bind fun v16=>((utf8_word k13 w1_0).bind fun v17=>((utf8_word k13 v14).bind fun v18=>((qC .or .u64 v17 v18).bind fun v19=>((utf8_word k13 v15).bind fun v20=>((utf8_word k13 v16).bind fun v21=>((qC .or .u64 v20 v21).bind fun v22=>((qC .or .u64 v19 v22).bind fun v23=>((qC .and .u64 v23 9259542123273814144).bind fun v24=>(iteS (decide (v24=0)) ((kA w1_0 32 ((w1_0.length:Nat):Int)).bind fun v25=>(dH k13 v25)) (aV k13 w1_0))))))))))))) (aV k13 w1_0))
end
def utf8_ValidString (k:Nat) (p0:(List UInt8)):Option (Bool):=(aV k p0)
def kQ:Nat→(List UInt8)→Int→Option (Bool)
 | 0,_,_=>none
 | k2+1,w0_0,w0_1=>(iteS (decide ((w0_1:Int).toNat<w0_0.length)) ((oS k2 (((fY w0_0 ((w0_1:Int).toNat)).1:Nat):Int)).bind fun v3=>(iteS (decide (v3=1)) (kQ k2 w0_0 (((w0_1:Int).toNat+(fY w0_0 ((w0_1:Int).toNat)).2:Nat):Int)) (iteS (decide (v3=2)) (iteS (decide ((((w0_1:Int).toNat:Nat):Int)=0)) (some false) (kQ k2 w0_0 (((w0_1:Int).toNat+(fY w0_0 ((w0_1:Int).toNat)).2:Nat):Int))) (iteS (decide ((((w0_1:Int).toNat:Nat):Int)=0)) (some false) (iteS (!decide ((((fY w0_0 ((w0_1:Int).toNat)).1:Nat):Int)=39)) (some false) (kQ k2 w0_0 (((w0_1:Int).toNat+(fY w0_0 ((w0_1:Int).toNat)).2:Nat):Int))))))) (some true))
def uL (k:Nat) (p0:(List UInt8)):Option (Bool):=(iteS (decide (p0=([]:List UInt8))) (some false) (iteS (decide (32<((p0.length:Nat):Int))) (some false) ((utf8_ValidString k p0).bind fun v1=>(iteS (!v1) (some false) (kQ k p0 0)))))
def eD:Nat→(List UInt8)→Int→Bool→Option (Int×(List UInt8)×Int×Int×Int×Bool)
 | 0,_,_,_=>none
 | k11+1,w0_0,w0_1,w0_2=>(iteS w0_2 (iteS (decide (w0_1<((w0_0.length:Nat):Int))) ((aZ w0_0 w0_1).bind fun c12=>(iteS (decide (((c12.toNat:Nat):Int)=46)) ((kA w0_0 (IntKind.i64.wrap (w0_1+1)) ((w0_0.length:Nat):Int)).bind fun v13=>((oM k11 v13).bind fun v14=>((kA w0_0 (IntKind.i64.wrap (w0_1+1)) ((w0_0.length:Nat):Int)).bind fun v15=>((kA v15 0 v14).bind fun v16=>((uL k11 v16).bind fun v17=>(iteS v17 ((rF k11 v16).bind fun v18=>(eD k11 w0_0 (IntKind.i64.wrap (w0_1+(IntKind.i64.wrap (1+v14)))) (!v18))) (eD k11 w0_0 (IntKind.i64.wrap (w0_1+(IntKind.i64.wrap (1+v14)))) false))))))) ((kA w0_0 0 w0_1).bind fun v19=>(some (1,v19,0,0,w0_1,(decide (w0_1≤128))))))) ((kA w0_0 0 w0_1).bind fun v20=>(some (1,v20,0,0,w0_1,(decide (w0_1≤128)))))) ((kA w0_0 0 w0_1).bind fun v21=>(some (1,v21,0,0,w0_1,false))))
def aAr (k:Nat) (p0:(List UInt8)):Option (Int×(List UInt8)×Int×Int×Int×Bool):=((oM k p0).bind fun v1=>((kA p0 0 v1).bind fun v2=>((rF k v2).bind fun v3=>(iteS v3 (iteS (decide (((p0.length:Nat):Int)=v1)) ((kA p0 0 v1).bind fun v4=>(some (3,v4,0,0,v1,true))) ((aZ p0 v1).bind fun c5=>(iteS (!decide (((c5.toNat:Nat):Int)=46)) ((kA p0 0 v1).bind fun v6=>(some (3,v6,0,0,v1,true))) ((kA p0 0 v1).bind fun v7=>((uL k v7).bind fun v8=>(iteS v8 ((kA p0 0 v1).bind fun v9=>((rF k v9).bind fun v10=>(eD k p0 v1 (!v10)))) (eD k p0 v1 false))))))) ((kA p0 0 v1).bind fun v22=>((uL k v22).bind fun v23=>(iteS v23 ((kA p0 0 v1).bind fun v24=>((rF k v24).bind fun v25=>(eD k p0 v1 (!v25)))) (eD k p0 v1 false))))))))
def rZ (k:Nat) (p0:Int):Option (Bool):=((oS k p0).bind fun v1=>(some (decide (v1=2))))
def iU:Nat→(List UInt8)→(List UInt8)→Int→Option (Int)
 | 0,_,_,_=>none
 | k1+1,w0_0,w0_1,w0_2=>(iteS (decide ((w0_2:Int).toNat<w0_1.length)) ((rZ k1 (((fY w0_1 ((w0_2:Int).toNat)).1:Nat):Int)).bind fun v2=>(iteS (!v2) (some (((w0_2:Int).toNat:Nat):Int)) (iU k1 w0_0 w0_1 (((w0_2:Int).toNat+(fY w0_1 ((w0_2:Int).toNat)).2:Nat):Int)))) (some ((w0_0.length:Nat):Int)))
def uK (k:Nat) (p0:(List UInt8)):Option (Int):=(iU k p0 p0 0)
def fK:Nat→(List Int)→Int→Int→Option ((List Int))
 | 0,_,_,_=>none
 | k1+1,w0_0,w0_1,w0_2=>(iteS (decide (w0_1<w0_2)) (if 0≤w0_2∧w0_2<((w0_0.length:Nat):Int) then ((aZ w0_0 w0_2).bind fun v2=>(if 0≤w0_1∧w0_1<((w0_0.length:Nat):Int) then ((aZ w0_0 w0_1).bind fun v3=>(if 0≤w0_1∧w0_1<((w0_0.length:Nat):Int) then ((aZ w0_0 w0_1).bind fun _u4=>(if 0≤w0_2∧w0_2<(((w0_0.set (w0_1).toNat v2).length:Nat):Int) then ((aZ (w0_0.set (w0_1).toNat v2) w0_2).bind fun _u5=>(fK k1 ((w0_0.set (w0_1).toNat v2).set (w0_2).toNat v3) (IntKind.i64.wrap (w0_1+1)) (IntKind.i64.wrap (w0_2 - 1)))) else none)) else none)) else none)) else none) (some w0_0))
def slices_Reverse (k:Nat) (p0:(List Int)):Option ((List Int)):=(fK k p0 0 (IntKind.i64.wrap (((p0.length:Nat):Int) - 1)))
mutual
def nU:Nat→Int→(List UInt8)→Option ((List UInt8))
 | 0,_,_=>none
 | k1+1,c0_0,c0_1=>(lO k1 c0_0 c0_1 ([]:List Int) true)
def lO:Nat→Int→(List UInt8)→(List Int)→Bool→Option ((List UInt8))
 | 0,_,_,_,_=>none
 | k2+1,w0_0,w0_1,w0_2,w0_3=>(iteS w0_3 ((aYw .rem .u64 w0_0 10).bind fun v3=>((aCb 1 w0_2 ([(IntKind.u8.wrap (IntKind.u64.wrap (48+v3)))]:List Int)).bind fun v4=>((aYw .quo .u64 w0_0 10).bind fun v5=>(lO k2 v5 w0_1 v4 (decide (0<v5)))))) ((slices_Reverse k2 w0_2).bind fun v6=>(if w0_2.length=v6.length then ((catS w0_1 (aHs v6)).bind fun v7=>(some v7)) else none)))
end
def uE (k:Nat) (p0:Int):Option ((List UInt8)):=(iteS (decide (p0<0)) (nU k (IntKind.u64.wrap (0 - (IntKind.u64.wrap p0))) ([126]:List UInt8)) (nU k (IntKind.u64.wrap p0) ([]:List UInt8)))
mutual
def iV:Nat→(List UInt8)→Int→Option (Int×(List UInt8)×Int×Int×Int×Bool)
 | 0,_,_=>none
 | k2+1,c0_0,c0_1=>((kA c0_0 c0_1 ((c0_0.length:Nat):Int)).bind fun v3=>((uK k2 v3).bind fun v4=>(iteS (decide ((IntKind.i64.wrap (c0_1+v4))=c0_1)) (some (0,([]:List UInt8),0,0,0,false)) ((kA c0_0 (IntKind.i64.wrap (c0_1+v4)) ((c0_0.length:Nat):Int)).bind fun v5=>((oM k2 v5).bind fun v6=>(iteS (decide (0<v6)) (some (0,([]:List UInt8),0,0,0,false)) ((kA c0_0 c0_1 (IntKind.i64.wrap (c0_1+v4))).bind fun v7=>(gB k2 c0_1 (IntKind.i64.wrap (c0_1+v4)) 0 v7 0))))))))
def gB:Nat→Int→Int→Int→(List UInt8)→Int→Option (Int×(List UInt8)×Int×Int×Int×Bool)
 | 0,_,_,_,_,_=>none
 | k8+1,w0_0,w0_1,w0_2,w0_3,w0_4=>(iteS (decide ((w0_4:Int).toNat<w0_3.length)) (iteS (decide (1073741824<(IntKind.i64.wrap ((IntKind.i64.wrap (10 * w0_2))+(IntKind.i64.wrap (IntKind.i32.wrap ((((fY w0_3 ((w0_4:Int).toNat)).1:Nat):Int) - 48))))))) (some (0,([]:List UInt8),0,0,0,false)) (gB k8 w0_0 w0_1 (IntKind.i64.wrap ((IntKind.i64.wrap (10 * w0_2))+(IntKind.i64.wrap (IntKind.i32.wrap ((((fY w0_3 ((w0_4:Int).toNat)).1:Nat):Int) - 48))))) w0_3 (((w0_4:Int).toNat+(fY w0_3 ((w0_4:Int).toNat)).2:Nat):Int))) (iteS (decide (w0_0=1)) ((uE k8 (IntKind.i64.wrap (0 - w0_2))).bind fun v9=>(some (2,v9,(IntKind.i64.wrap (0 - w0_2)),0,w0_1,true))) ((uE k8 w0_2).bind fun v10=>(some (2,v10,w0_2,0,w0_1,true)))))
end
def oP (k:Nat) (p0:(List UInt8)):Option (Int×(List UInt8)×Int×Int×Int×Bool):=((aZ p0 0).bind fun c1=>(iteS (decide (((c1.toNat:Nat):Int)=126)) (iV k p0 1) (iV k p0 0)))
def aDw (_k:Nat):Option ((List (List UInt8))):=(some ([([58,62]:List UInt8),([61,62]:List UInt8),([45,62]:List UInt8),([35,49]:List UInt8),([35,50]:List UInt8),([40]:List UInt8),([41]:List UInt8),([123]:List UInt8),([125]:List UInt8),([44]:List UInt8),([58]:List UInt8),([61]:List UInt8),([42]:List UInt8),([43]:List UInt8),([45]:List UInt8),([60]:List UInt8),([124]:List UInt8)]:List (List UInt8)))
def mY:Nat→(List UInt8)→(List (List UInt8))→Int→Option (Int×(List UInt8)×Int×Int×Int×Bool)
 | 0,_,_,_=>none
 | k23+1,w0_0,w0_1,w0_2=>(iteS (decide (w0_2<((w0_1.length:Nat):Int))) ((aZ w0_1 w0_2).bind fun v24=>((strings_HasPrefix k23 w0_0 v24).bind fun v25=>(iteS v25 (some (3,v24,0,0,((v24.length:Nat):Int),true)) (mY k23 w0_0 w0_1 (IntKind.i64.wrap (w0_2+1)))))) (some (0,([]:List UInt8),0,0,0,false)))
def nH (k:Nat) (p0:(List UInt8)):Option (Int×(List UInt8)×Int×Int×Int×Bool):=((aDk k p0).bind fun v1=>((oS k v1).bind fun v2=>(iteS (decide (v2=1)) ((aAr k p0).bind fun (v3,v4,v5,v6,v7,v8)=>(some (v3,v4,v5,v6,v7,v8))) (iteS (decide (v2=2)) ((oP k p0).bind fun (v9,v10,v11,v12,v13,v14)=>(some (v9,v10,v11,v12,v13,v14))) ((aZ p0 0).bind fun c15=>(iteS (decide (((c15.toNat:Nat):Int)=126)) ((oP k p0).bind fun (v16,v17,v18,v19,v20,v21)=>(some (v16,v17,v18,v19,v20,v21))) ((aDw k).bind fun v22=>(mY k p0 v22 0))))))))
mutual
def eW:Nat→(List UInt8)→bI→Int→Option (bI×Int×Int)
 | 0,_,_,_=>none
 | k3+1,w0_0,w0_1,w0_2=>(iteS (decide (w0_2<((w0_0.length:Nat):Int))) ((kA w0_0 w0_2 ((w0_0.length:Nat):Int)).bind fun v4=>((sY k3 v4).bind fun v5=>(iteS (decide (0<v5)) (eW k3 w0_0 w0_1 (IntKind.i64.wrap (w0_2+v5))) ((strings_HasPrefix k3 v4 ([40,42]:List UInt8)).bind fun v6=>(iteS v6 ((zG k3 v4).bind fun v7=>(iteS (decide (v7=0)) (some (([]:List (Int×(List UInt8)×Int×Int)),w0_2,5)) (eW k3 w0_0 w0_1 (IntKind.i64.wrap (w0_2+v7))))) ((nH k3 v4).bind fun (v8,v9,v10,v11,v12,v13)=>(iteS (!v13) (some (([]:List (Int×(List UInt8)×Int×Int)),w0_2,5)) (sV k3 w0_0 w0_1 w0_2 v12 v8 v9 v10 v11)))))))) (some (w0_1,0,0)))
def sV:Nat→(List UInt8)→bI→Int→Int→Int→(List UInt8)→Int→Int→Option (bI×Int×Int)
 | 0,_,_,_,_,_,_,_,_=>none
 | k14+1,c0_0,c0_1,c0_2,c0_3,c0_4,c0_5,c0_6,_c0_7=>((aCb 40 c0_1 ([(c0_4,c0_5,c0_6,c0_2)]:List (Int×(List UInt8)×Int×Int))).bind fun v15=>(eW k14 c0_0 v15 (IntKind.i64.wrap (c0_2+c0_3))))
end
def qJ (k:Nat) (p0:(List UInt8)):Option (bI×Int×Int):=((rA k p0).bind fun (v1,v2)=>(iteS (!decide (v2=0)) (some (([]:List (Int×(List UInt8)×Int×Int)),v1,v2)) (eW k p0 ([]:List (Int×(List UInt8)×Int×Int)) 0)))
def aE3 (_k:Nat) (p0:bI) (p1:Int):Option (bI×Int×Int):=(iteS (decide (p1<0)) (some (p0,0,2)) (iteS (decide (((p0.length:Nat):Int)<p1)) (some (p0,0,2)) (some (p0,p1,0))))
def aFz (_k:Nat) (p0:bI) (p1:Int):Option (Bool):=(iteS (decide (0≤p1)) (some (decide (p1<((p0.length:Nat):Int)))) (some false))
def lK (k:Nat) (p0:bI) (p1:Int) (p2:(List UInt8)):Option (Bool):=((aFz k p0 p1).bind fun v1=>(iteS v1 ((aZ p0 p1).bind fun v2=>(iteS (decide (v2.1=3)) ((aZ p0 p1).bind fun v3=>(some (decide (v3.2.1=p2)))) (some false))) (some false)))
def aT (k:Nat) (p0:bI) (p1:Int) (p2:Int) (p3:(List UInt8)):Option (Bool×bI×Int×Int):=(iteS (!decide (p2=0)) (some (false,p0,p1,p2)) ((lK k p0 p1 p3).bind fun v1=>(iteS (!v1) (some (false,p0,p1,p2)) (some (true,p0,(IntKind.i64.wrap (p1+1)),p2)))))
def eL (k:Nat) (p0:(List UInt8)):Option (Bool):=((uL k p0).bind fun v1=>(iteS v1 ((rF k p0).bind fun v2=>(some (!v2))) (some false)))
def wR (k:Nat) (p0:bI) (p1:Int):Option ((List UInt8)×Bool):=((aFz k p0 p1).bind fun v1=>(iteS (!v1) (some (([]:List UInt8),false)) ((aZ p0 p1).bind fun v2=>(iteS (!decide (v2.1=1)) (some (([]:List UInt8),false)) ((aZ p0 p1).bind fun v3=>((eL k v3.2.1).bind fun v4=>(iteS (!v4) (some (([]:List UInt8),false)) ((aZ p0 p1).bind fun v5=>(some (v5.2.1,true))))))))))
def dR (_k:Nat) (p0:bI) (p1:Int) (p2:Int) (p3:Int):Option (bI×Int×Int):=(iteS (decide (p2=0)) (some (p0,p1,p3)) (some (p0,p1,p2)))
def hQ (k:Nat) (p0:bI) (p1:Int) (p2:Int):Option ((List UInt8)×bI×Int×Int):=((wR k p0 p1).bind fun (v1,v2)=>(iteS (!decide (p2=0)) ((dR k p0 p1 p2 6).bind fun (v3,v4,v5)=>(some (([]:List UInt8),v3,v4,v5))) (iteS (!v2) ((dR k p0 p1 p2 6).bind fun (v6,v7,v8)=>(some (([]:List UInt8),v6,v7,v8))) (some (v1,p0,(IntKind.i64.wrap (p1+1)),p2)))))
def bU (k:Nat) (p0:bI) (p1:Int) (p2:Int):Option ((List UInt8)×bI×Int×Int):=((hQ k p0 p1 p2).bind fun (v1,v2,v3,v4)=>(some (v1,v2,v3,v4)))
def qX (_k:Nat) (p0:Int) (p1:(List UInt8)):Option (Int×Int×(List UInt8)×(List UInt8)):=(some (p0,0,p1,([]:List UInt8)))
def aAV (_k:Nat) (p0:bI) (p1:Int):Option (bI×Int×Int):=(iteS (decide (p1<0)) (some (p0,0,2)) (iteS (decide (((p0.length:Nat):Int)<p1)) (some (p0,0,2)) (some (p0,p1,0))))
def jG:Nat→Int→(List UInt8)→Int→Option (Int)
 | 0,_,_,_=>none
 | k1+1,w0_0,w0_1,w0_2=>(iteS (decide ((w0_2:Int).toNat<w0_1.length)) (jG k1 (IntKind.i64.wrap (w0_0+1)) w0_1 (((w0_2:Int).toNat+(fY w0_1 ((w0_2:Int).toNat)).2:Nat):Int)) (some w0_0))
def utf8_RuneCountInString (k:Nat) (p0:(List UInt8)):Option (Int):=(jG k 0 p0 0)
def jA:Nat→(List UInt8)→Int→Int→Int→Option (Int×Int)
 | 0,_,_,_,_=>none
 | _k13+1,c0_0,c0_1,c0_2,c0_3=>(iteS (decide (c0_2≤2)) ((qC .and .u8 c0_1 31).bind fun v14=>((shI .shl .i32 (IntKind.i32.wrap v14) 6).bind fun v15=>((qC .and .u8 c0_3 63).bind fun v16=>((qC .or .i32 v15 (IntKind.i32.wrap v16)).bind fun v17=>(some (v17,2)))))) ((aZ c0_0 2).bind fun c18=>(iteS (decide (((c18.toNat:Nat):Int)<128)) (some (65533,1)) (iteS (decide (191<((c18.toNat:Nat):Int))) (some (65533,1)) (iteS (decide (c0_2≤3)) ((qC .and .u8 c0_1 15).bind fun v19=>((shI .shl .i32 (IntKind.i32.wrap v19) 12).bind fun v20=>((qC .and .u8 c0_3 63).bind fun v21=>((shI .shl .i32 (IntKind.i32.wrap v21) 6).bind fun v22=>((qC .or .i32 v20 v22).bind fun v23=>((qC .and .u8 ((c18.toNat:Nat):Int) 63).bind fun v24=>((qC .or .i32 v23 (IntKind.i32.wrap v24)).bind fun v25=>(some (v25,3))))))))) ((aZ c0_0 3).bind fun c26=>(iteS (decide (((c26.toNat:Nat):Int)<128)) (some (65533,1)) (iteS (decide (191<((c26.toNat:Nat):Int))) (some (65533,1)) ((qC .and .u8 c0_1 7).bind fun v27=>((shI .shl .i32 (IntKind.i32.wrap v27) 18).bind fun v28=>((qC .and .u8 c0_3 63).bind fun v29=>((shI .shl .i32 (IntKind.i32.wrap v29) 12).bind fun v30=>((qC .or .i32 v28 v30).bind fun v31=>((qC .and .u8 ((c18.toNat:Nat):Int) 63).bind fun v32=>((shI .shl .i32 (IntKind.i32.wrap v32) 6).bind fun v33=>((qC .or .i32 v31 v33).bind fun v34=>((qC .and .u8 ((c26.toNat:Nat):Int) 63).bind fun v35=>((qC .or .i32 v34 (IntKind.i32.wrap v35)).bind fun v36=>(some (v36,4))))))))))))))))))))
def utf8_decodeRuneInStringSlow (k:Nat) (p0:(List UInt8)):Option (Int×Int):=(iteS (decide (((p0.length:Nat):Int)<1)) (some (65533,0)) ((aZ p0 0).bind fun c1=>((aZ aYC ((c1.toNat:Nat):Int)).bind fun v2=>(iteS (decide (240≤v2)) ((shI .shl .i32 (IntKind.i32.wrap v2) 31).bind fun v3=>((shI .shr .i32 v3 31).bind fun v4=>((aZ p0 0).bind fun c5=>((qC .andNot .i32 (IntKind.i32.wrap ((c5.toNat:Nat):Int)) v4).bind fun v6=>((qC .and .i32 65533 v4).bind fun v7=>((qC .or .i32 v6 v7).bind fun v8=>(some (v8,1)))))))) ((qC .and .u8 v2 7).bind fun v9=>((shI .shr .u8 v2 4).bind fun v10=>((aZ aYz v10).bind fun v11=>(iteS (decide (((p0.length:Nat):Int)<(IntKind.i64.wrap v9))) (some (65533,1)) ((aZ p0 1).bind fun c12=>(iteS (decide (((c12.toNat:Nat):Int)<v11.1)) (some (65533,1)) (iteS (decide (v11.2<((c12.toNat:Nat):Int))) (some (65533,1)) (jA k p0 ((c1.toNat:Nat):Int) (IntKind.i64.wrap v9) ((c12.toNat:Nat):Int)))))))))))))
def utf8_DecodeRuneInString (k:Nat) (p0:(List UInt8)):Option (Int×Int):=(iteS (!decide (p0=([]:List UInt8))) ((aZ p0 0).bind fun c1=>(iteS (decide (((c1.toNat:Nat):Int)<128)) ((aZ p0 0).bind fun c2=>(some ((IntKind.i32.wrap ((c2.toNat:Nat):Int)),1))) ((utf8_decodeRuneInStringSlow k p0).bind fun (v3,v4)=>(some (v3,v4))))) ((utf8_decodeRuneInStringSlow k p0).bind fun (v5,v6)=>(some (v5,v6))))
mutual
def mF:Nat→(List UInt8)→Int→Option ((List (List UInt8)))
 | 0,_,_=>none
 | k2+1,c0_0,c0_1=>((mkL 16 ([]:(List UInt8)) c0_1).bind fun v3=>(pV k2 c0_0 c0_1 v3 0))
def pV:Nat→(List UInt8)→Int→(List (List UInt8))→Int→Option ((List (List UInt8)))
 | 0,_,_,_,_=>none
 | k4+1,w0_0,w0_1,w0_2,w0_3=>(iteS (decide (w0_3<(IntKind.i64.wrap (w0_1 - 1)))) ((utf8_DecodeRuneInString k4 w0_0).bind fun (_v5,v6)=>((kA w0_0 0 v6).bind fun v7=>(if 0≤w0_3∧w0_3<((w0_2.length:Nat):Int) then ((aZ w0_2 w0_3).bind fun _u8=>((kA w0_0 v6 ((w0_0.length:Nat):Int)).bind fun v9=>(pV k4 v9 w0_1 (w0_2.set (w0_3).toNat v7) (IntKind.i64.wrap (w0_3+1))))) else none))) (iteS (decide (0<w0_1)) (if 0≤(IntKind.i64.wrap (w0_1 - 1))∧(IntKind.i64.wrap (w0_1 - 1))<((w0_2.length:Nat):Int) then ((aZ w0_2 (IntKind.i64.wrap (w0_1 - 1))).bind fun _u10=>(some (w0_2.set ((IntKind.i64.wrap (w0_1 - 1))).toNat w0_0))) else none) (some w0_2)))
end
def aDJ (k:Nat) (p0:(List UInt8)) (p1:Int):Option ((List (List UInt8))):=((utf8_RuneCountInString k p0).bind fun v1=>(iteS (decide (p1<0)) (mF k p0 v1) (iteS (decide (v1<p1)) (mF k p0 v1) (mF k p0 p1))))
def strings_Count (_:Nat) (p0:List UInt8) (p1:List UInt8):Option Int:=match p1 with | [c]=>some (Lib.countByte p0 c) | _=>none
def strings_Index (_:Nat) (p0:List UInt8) (p1:List UInt8):Option Int:=match p1 with | [c]=>some (Lib.indexByte p0 c) | _=>none
mutual
def lJ:Nat→(List UInt8)→(List UInt8)→Int→Int→Option ((List (List UInt8)))
 | 0,_,_,_,_=>none
 | k3+1,c0_0,c0_1,c0_2,c0_3=>((mkL 16 ([]:(List UInt8)) (if (IntKind.i64.wrap (((c0_0.length:Nat):Int)+1))<c0_3 then (IntKind.i64.wrap (((c0_0.length:Nat):Int)+1)) else c0_3)).bind fun v4=>(gY k3 c0_0 c0_1 c0_2 (IntKind.i64.wrap ((if (IntKind.i64.wrap (((c0_0.length:Nat):Int)+1))<c0_3 then (IntKind.i64.wrap (((c0_0.length:Nat):Int)+1)) else c0_3) - 1)) v4 0))
def gY:Nat→(List UInt8)→(List UInt8)→Int→Int→(List (List UInt8))→Int→Option ((List (List UInt8)))
 | 0,_,_,_,_,_,_=>none
 | k5+1,w0_0,w0_1,w0_2,w0_3,w0_4,w0_5=>(iteS (decide (w0_5<w0_3)) ((strings_Index k5 w0_0 w0_1).bind fun v6=>(iteS (decide (v6<0)) (if 0≤w0_5∧w0_5<((w0_4.length:Nat):Int) then ((aZ w0_4 w0_5).bind fun _u7=>((kA (w0_4.set (w0_5).toNat w0_0) 0 (IntKind.i64.wrap (w0_5+1))).bind fun v8=>(some v8))) else none) ((kA w0_0 0 (IntKind.i64.wrap (v6+w0_2))).bind fun v9=>(if 0≤w0_5∧w0_5<((w0_4.length:Nat):Int) then ((aZ w0_4 w0_5).bind fun _u10=>((kA w0_0 (IntKind.i64.wrap (v6+((w0_1.length:Nat):Int))) ((w0_0.length:Nat):Int)).bind fun v11=>(gY k5 v11 w0_1 w0_2 w0_3 (w0_4.set (w0_5).toNat v9) (IntKind.i64.wrap (w0_5+1))))) else none)))) (if 0≤w0_5∧w0_5<((w0_4.length:Nat):Int) then ((aZ w0_4 w0_5).bind fun _u12=>((kA (w0_4.set (w0_5).toNat w0_0) 0 (IntKind.i64.wrap (w0_5+1))).bind fun v13=>(some v13))) else none))
end
def strings_genSplit (k:Nat) (p0:(List UInt8)) (p1:(List UInt8)) (p2:Int) (p3:Int):Option ((List (List UInt8))):=(iteS (decide (p3=0)) (some ([]:List (List UInt8))) (iteS (decide (p1=([]:List UInt8))) ((aDJ k p0 p3).bind fun v1=>(some v1)) (iteS (decide (p3<0)) ((strings_Count k p0 p1).bind fun v2=>(lJ k p0 p1 p2 (IntKind.i64.wrap (v2+1)))) (lJ k p0 p1 p2 p3))))
def strings_Split (k:Nat) (p0:(List UInt8)) (p1:(List UInt8)):Option ((List (List UInt8))):=((strings_genSplit k p0 p1 0 (-1)).bind fun v1=>(some v1))
def aBw (k:Nat) (p0:(List UInt8)):Option (Bool):=((eL k p0).bind fun v1=>(some (!v1)))
def cX:Nat→(List (List UInt8))→Int→Option (Int)
 | 0,_,_=>none
 | k1+1,w0_0,w0_1=>(iteS (decide (w0_1<((w0_0.length:Nat):Int))) ((aZ w0_0 w0_1).bind fun v2=>((aBw k1 v2).bind fun v3=>(iteS v3 (some w0_1) (cX k1 w0_0 (IntKind.i64.wrap (w0_1+1)))))) (some (-1)))
def tQ (k:Nat) (p0:(List (List UInt8))):Option (Int):=(cX k p0 0)
def qA (k:Nat) (p0:(List (List UInt8))):Option (Bool):=((tQ k p0).bind fun v1=>(some (decide (0≤v1))))
def lZ (k:Nat) (p0:(List UInt8)):Option (Bool):=(iteS (decide (((p0.length:Nat):Int)≤128)) ((strings_Split k p0 ([46]:List UInt8)).bind fun v1=>((qA k v1).bind fun v2=>(some (!v2)))) (some false))
def aAz (k:Nat) (p0:bI) (p1:Int):Option ((List UInt8)×Bool):=((aFz k p0 p1).bind fun v1=>(iteS (!v1) (some (([]:List UInt8),false)) ((aZ p0 p1).bind fun v2=>(iteS (!decide (v2.1=1)) (some (([]:List UInt8),false)) ((aZ p0 p1).bind fun v3=>((lZ k v3.2.1).bind fun v4=>(iteS (!v4) (some (([]:List UInt8),false)) ((aZ p0 p1).bind fun v5=>(some (v5.2.1,true))))))))))
def pT (_k:Nat) (p0:Int) (p1:(List UInt8)) (p2:(List Tr)):Option (Tr):=(some (.node p0 0 p1 ([]:List UInt8) p2))
def bP (k:Nat) (p0:bI) (p1:Int) (p2:Int) (p3:(List UInt8)):Option (Bool×bI×Int×Int):=(iteS (!decide (p2=0)) (some (false,p0,p1,p2)) ((lK k p0 p1 p3).bind fun v1=>(iteS (!v1) (some (false,p0,p1,p2)) (some (true,p0,(IntKind.i64.wrap (p1+1)),p2)))))
def cZ (_k:Nat) (p0:bI) (p1:Int) (p2:Int) (p3:Int):Option (bI×Int×Int):=(iteS (decide (p2=0)) (some (p0,p1,p3)) (some (p0,p1,p2)))
def dW (k:Nat) (p0:bI) (p1:Int) (p2:Int) (p3:(List UInt8)):Option (bI×Int×Int):=((bP k p0 p1 p2 p3).bind fun (v1,v2,v3,v4)=>(iteS (!v1) ((cZ k v2 v3 v4 6).bind fun (v5,v6,v7)=>(some (v5,v6,v7))) (some (v2,v3,v4))))
def fM (k:Nat) (p0:bI) (p1:Int) (p2:Int):Option ((List UInt8)×bI×Int×Int):=((wR k p0 p1).bind fun (v1,v2)=>(iteS (!decide (p2=0)) ((cZ k p0 p1 p2 6).bind fun (v3,v4,v5)=>(some (([]:List UInt8),v3,v4,v5))) (iteS (!v2) ((cZ k p0 p1 p2 6).bind fun (v6,v7,v8)=>(some (([]:List UInt8),v6,v7,v8))) (some (v1,p0,(IntKind.i64.wrap (p1+1)),p2)))))
mutual
def iO:Nat→bI→Int→Int→Tr→(List UInt8)→Int→Option (Tr×bI×Int×Int)
 | 0,_,_,_,_,_,_=>none
 | k+1,p0,p1,p2,p3,p4,p5=>((bP k p0 p1 p2 p4).bind fun (v1,v2,v3,v4)=>(iteS (!v1) (some (p3,v2,v3,v4)) ((bT k v2 v3 v4).bind fun (v5,v6,v7,v8)=>((pT k p5 ([]:List UInt8) ([p3,v5]:List Tr)).bind fun v9=>(some (v9,v6,v7,v8))))))
def kO:Nat→bI→Int→Int→Tr→(List UInt8)→Int→Option (Tr×bI×Int×Int)
 | 0,_,_,_,_,_,_=>none
 | k+1,p0,p1,p2,p3,p4,p5=>((bP k p0 p1 p2 p4).bind fun (v1,v2,v3,v4)=>(iteS (!v1) (some (p3,v2,v3,v4)) ((bS k v2 v3 v4).bind fun (v5,v6,v7,v8)=>((pT k p5 ([]:List UInt8) ([p3,v5]:List Tr)).bind fun v9=>(some (v9,v6,v7,v8))))))
def fO:Nat→bI→Int→Int→Option ((List Tr)×bI×Int×Int)
 | 0,_,_,_=>none
 | k+1,p0,p1,p2=>(dO k ([]:List Tr) p0 p1 p2 ([]:List ((List UInt8)×Bool)))
def dO:Nat→(List Tr)→bI→Int→Int→(List ((List UInt8)×Bool))→Option ((List Tr)×bI×Int×Int)
 | 0,_,_,_,_,_=>none
 | k1+1,w0_0,w0_1,w0_2,w0_3,w0_4=>(iteS (decide (w0_3=0)) ((fM k1 w0_1 w0_2 w0_3).bind fun (v2,v3,v4,v5)=>(iteS (decide (v5=0)) (iteS ((jN w0_4 v2).getD false) ((cZ k1 v3 w0_2 v5 9).bind fun (v6,v7,v8)=>(cB k1 w0_0 v2 v6 v7 v8 w0_4)) (cB k1 w0_0 v2 v3 v4 v5 w0_4)) (cB k1 w0_0 v2 v3 v4 v5 w0_4))) (some (w0_0,w0_1,w0_2,w0_3)))
def cB:Nat→(List Tr)→(List UInt8)→bI→Int→Int→(List ((List UInt8)×Bool))→Option ((List Tr)×bI×Int×Int)
 | 0,_,_,_,_,_,_=>none
 | k9+1,c0_0,c0_1,c0_2,c0_3,c0_4,c0_5=>((dW k9 c0_2 c0_3 c0_4 ([111,102]:List UInt8)).bind fun (v10,v11,v12)=>((bT k9 v10 v11 v12).bind fun (v13,v14,v15,v16)=>((pT k9 8 c0_1 ([v13]:List Tr)).bind fun v17=>((aCb 8 c0_0 ([v17]:List Tr)).bind fun v18=>((bP k9 v14 v15 v16 ([124]:List UInt8)).bind fun (v19,v20,v21,v22)=>(iteS (!v19) (some (v18,v20,v21,v22)) (dO k9 v18 v20 v21 v22 (aFL c0_5 c0_1 true))))))))
def bZ:Nat→bI→Int→Int→Option (Tr×bI×Int×Int)
 | 0,_,_,_=>none
 | k+1,p0,p1,p2=>(iteS (!decide (p2=0)) (some (.nil,p0,p1,p2)) ((aAz k p0 p1).bind fun (v1,v2)=>(iteS v2 ((pT k 4 v1 ([]:List Tr)).bind fun v3=>(some (v3,p0,(IntKind.i64.wrap (p1+1)),p2))) ((bP k p0 p1 p2 ([105,110,116]:List UInt8)).bind fun (v4,v5,v6,v7)=>(iteS v4 ((pT k 1 ([]:List UInt8) ([]:List Tr)).bind fun v8=>(some (v8,v5,v6,v7))) ((bP k v5 v6 v7 ([98,111,111,108]:List UInt8)).bind fun (v9,v10,v11,v12)=>(iteS v9 ((pT k 2 ([]:List UInt8) ([]:List Tr)).bind fun v13=>(some (v13,v10,v11,v12))) ((bP k v10 v11 v12 ([117,110,105,116]:List UInt8)).bind fun (v14,v15,v16,v17)=>(iteS v14 ((pT k 3 ([]:List UInt8) ([]:List Tr)).bind fun v18=>(some (v18,v15,v16,v17))) ((bP k v15 v16 v17 ([40]:List UInt8)).bind fun (v19,v20,v21,v22)=>(iteS v19 ((bT k v20 v21 v22).bind fun (v23,v24,v25,v26)=>((dW k v24 v25 v26 ([41]:List UInt8)).bind fun (v27,v28,v29)=>(some (v23,v27,v28,v29)))) ((bP k v20 v21 v22 ([109,117]:List UInt8)).bind fun (v30,v31,v32,v33)=>(iteS v30 ((fM k v31 v32 v33).bind fun (v34,v35,v36,v37)=>(cM k v34 v35 v36 v37)) ((cZ k v31 v32 v33 6).bind fun (v50,v51,v52)=>(some (.nil,v50,v51,v52))))))))))))))))
def cM:Nat→(List UInt8)→bI→Int→Int→Option (Tr×bI×Int×Int)
 | 0,_,_,_,_=>none
 | k38+1,c0_0,c0_1,c0_2,c0_3=>((dW k38 c0_1 c0_2 c0_3 ([123]:List UInt8)).bind fun (v39,v40,v41)=>((fO k38 v39 v40 v41).bind fun (v42,v43,v44,v45)=>((dW k38 v43 v44 v45 ([125]:List UInt8)).bind fun (v46,v47,v48)=>((pT k38 7 c0_0 v42).bind fun v49=>(some (v49,v46,v47,v48))))))
def bS:Nat→bI→Int→Int→Option (Tr×bI×Int×Int)
 | 0,_,_,_=>none
 | k+1,p0,p1,p2=>((bZ k p0 p1 p2).bind fun (v1,v2,v3,v4)=>((kO k v2 v3 v4 v1 ([42]:List UInt8) 6).bind fun (v5,v6,v7,v8)=>(some (v5,v6,v7,v8))))
def bT:Nat→bI→Int→Int→Option (Tr×bI×Int×Int)
 | 0,_,_,_=>none
 | k+1,p0,p1,p2=>((bS k p0 p1 p2).bind fun (v1,v2,v3,v4)=>((iO k v2 v3 v4 v1 ([45,62]:List UInt8) 5).bind fun (v5,v6,v7,v8)=>(some (v5,v6,v7,v8))))
end
def aCP (k:Nat) (p0:bI) (p1:Int):Option (Tr×Int×Int):=((aAV k p0 p1).bind fun (v1,v2,v3)=>((bT k v1 v2 v3).bind fun (v4,_v5,v6,v7)=>(iteS (!decide (v7=0)) (some (.nil,v6,v7)) (some (v4,v6,0)))))
def hZ (k:Nat) (p0:bI) (p1:Int) (p2:Int):Option (Tr×bI×Int×Int):=(iteS (!decide (p2=0)) (some (.nil,p0,p1,p2)) ((aCP k p0 p1).bind fun (v1,v2,v3)=>((dR k p0 v2 p2 v3).bind fun (v4,v5,v6)=>(some (v1,v4,v5,v6)))))
def iT (k:Nat) (p0:bI) (p1:Int) (p2:Int):Option (Tr×bI×Int×Int):=((hZ k p0 p1 p2).bind fun (v1,v2,v3,v4)=>(some (v1,v2,v3,v4)))
def dG:Nat→(List (List UInt8))→Int→bI→Int→Int→Option (bI×Int×Int)
 | 0,_,_,_,_,_=>none
 | k1+1,w0_0,w0_1,w0_2,w0_3,w0_4=>(iteS (decide (w0_1<((w0_0.length:Nat):Int))) ((aZ w0_0 w0_1).bind fun v2=>((aT k1 w0_2 w0_3 w0_4 v2).bind fun (v3,v4,v5,v6)=>(iteS (!v3) ((dR k1 v4 v5 v6 6).bind fun (v7,v8,v9)=>(dG k1 w0_0 (IntKind.i64.wrap (w0_1+1)) v7 v8 v9)) (dG k1 w0_0 (IntKind.i64.wrap (w0_1+1)) v4 v5 v6)))) (some (w0_2,w0_3,w0_4)))
def bE (k:Nat) (p0:bI) (p1:Int) (p2:Int) (p3:(List (List UInt8))):Option (bI×Int×Int):=(dG k p3 0 p0 p1 p2)
def bH (k:Nat) (p0:bI) (p1:Int) (p2:Int) (p3:(List UInt8)):Option (Bool×bI×Int×Int):=(iteS (!decide (p2=0)) (some (false,p0,p1,p2)) ((lK k p0 p1 p3).bind fun v1=>(iteS (!v1) (some (false,p0,p1,p2)) (some (true,p0,(IntKind.i64.wrap (p1+1)),p2)))))
def eV (_k:Nat) (p0:bI) (p1:Int) (p2:Int) (p3:Int):Option (bI×Int×Int):=(iteS (decide (p2=0)) (some (p0,p1,p3)) (some (p0,p1,p2)))
def cO:Nat→(List (List UInt8))→Int→bI→Int→Int→Option (bI×Int×Int)
 | 0,_,_,_,_,_=>none
 | k1+1,w0_0,w0_1,w0_2,w0_3,w0_4=>(iteS (decide (w0_1<((w0_0.length:Nat):Int))) ((aZ w0_0 w0_1).bind fun v2=>((bH k1 w0_2 w0_3 w0_4 v2).bind fun (v3,v4,v5,v6)=>(iteS (!v3) ((eV k1 v4 v5 v6 6).bind fun (v7,v8,v9)=>(cO k1 w0_0 (IntKind.i64.wrap (w0_1+1)) v7 v8 v9)) (cO k1 w0_0 (IntKind.i64.wrap (w0_1+1)) v4 v5 v6)))) (some (w0_2,w0_3,w0_4)))
def bB (k:Nat) (p0:bI) (p1:Int) (p2:Int) (p3:(List (List UInt8))):Option (bI×Int×Int):=(cO k p3 0 p0 p1 p2)
def fL (k:Nat) (p0:bI) (p1:Int) (p2:Int):Option ((List UInt8)×bI×Int×Int):=((wR k p0 p1).bind fun (v1,v2)=>(iteS (!decide (p2=0)) ((eV k p0 p1 p2 6).bind fun (v3,v4,v5)=>(some (([]:List UInt8),v3,v4,v5))) (iteS (!v2) ((eV k p0 p1 p2 6).bind fun (v6,v7,v8)=>(some (([]:List UInt8),v6,v7,v8))) (some (v1,p0,(IntKind.i64.wrap (p1+1)),p2)))))
def jB (k:Nat) (p0:bI) (p1:Int) (p2:Int):Option (Tr×bI×Int×Int):=(iteS (!decide (p2=0)) (some (.nil,p0,p1,p2)) ((aCP k p0 p1).bind fun (v1,v2,v3)=>((eV k p0 v2 p2 v3).bind fun (v4,v5,v6)=>(some (v1,v4,v5,v6)))))
def kG (_k:Nat) (p0:Int) (p1:(List UInt8)) (p2:(List Tr)):Option (Tr):=(some (.node p0 0 p1 ([]:List UInt8) p2))
def yC (_k:Nat) (p0:Int) (_p1:(List UInt8)) (p2:Int) (_p3:Int):Option (Bool):=(iteS (decide (p0=2)) (iteS (decide ((-1073741824)≤p2)) (some (decide (p2≤1073741824))) (some false)) (some false))
def hP (k:Nat) (p0:bI) (p1:Int) (p2:Int):Option (Bool×bI×Int×Int):=(iteS (!decide (p2=0)) (some (false,p0,p1,p2)) (iteS (decide (((p0.length:Nat):Int)≤p1)) (some (false,p0,p1,p2)) ((lK k p0 p1 ([116,114,117,101]:List UInt8)).bind fun v1=>(iteS v1 (some (true,p0,p1,p2)) ((lK k p0 p1 ([102,97,108,115,101]:List UInt8)).bind fun v2=>(iteS v2 (some (true,p0,p1,p2)) ((lK k p0 p1 ([40]:List UInt8)).bind fun v3=>(iteS v3 (some (true,p0,p1,p2)) ((lK k p0 p1 ([35,49]:List UInt8)).bind fun v4=>(iteS v4 (some (true,p0,p1,p2)) ((lK k p0 p1 ([35,50]:List UInt8)).bind fun v5=>(iteS v5 (some (true,p0,p1,p2)) ((aAz k p0 p1).bind fun (_v6,v7)=>(iteS v7 (some (true,p0,p1,p2)) ((aZ p0 p1).bind fun v8=>((yC k v8.1 v8.2.1 v8.2.2.1 v8.2.2.2).bind fun v9=>(some (v9,p0,p1,p2))))))))))))))))))
def aCa (_k:Nat) (p0:Int) (p1:Tr) (p2:Tr):Option (Tr):=(some (.node 31 p0 ([]:List UInt8) ([]:List UInt8) ([p1,p2]:List Tr)))
mutual
def cH:Nat→bI→Int→Int→Option (Tr×bI×Int×Int)
 | 0,_,_,_=>none
 | k+1,p0,p1,p2=>((hP k p0 p1 p2).bind fun (v1,v2,v3,v4)=>(iteS (!v1) ((eV k v2 v3 v4 6).bind fun (v5,v6,v7)=>(some (.nil,v5,v6,v7))) ((aZ v2 v3).bind fun v8=>(iteS (decide (v8.1=2)) (some ((.node 20 v8.2.2.1 ([]:List UInt8) ([]:List UInt8) ([]:List Tr)),v2,(IntKind.i64.wrap (v3+1)),v4)) (iteS (decide (v8.1=1)) ((kG k 23 v8.2.1 ([]:List Tr)).bind fun v9=>(some (v9,v2,(IntKind.i64.wrap (v3+1)),v4))) (iteS (decide (v8.2.1=([116,114,117,101]:List UInt8))) (some ((.node 21 1 ([]:List UInt8) ([]:List UInt8) ([]:List Tr)),v2,(IntKind.i64.wrap (v3+1)),v4)) (iteS (decide (v8.2.1=([102,97,108,115,101]:List UInt8))) ((kG k 21 ([]:List UInt8) ([]:List Tr)).bind fun v10=>(some (v10,v2,(IntKind.i64.wrap (v3+1)),v4))) (iteS (decide (v8.2.1=([35,49]:List UInt8))) ((cH k v2 (IntKind.i64.wrap (v3+1)) v4).bind fun (v11,v12,v13,v14)=>((kG k 27 ([]:List UInt8) ([v11]:List Tr)).bind fun v15=>(some (v15,v12,v13,v14)))) (iteS (decide (v8.2.1=([35,50]:List UInt8))) ((cH k v2 (IntKind.i64.wrap (v3+1)) v4).bind fun (v16,v17,v18,v19)=>((kG k 28 ([]:List UInt8) ([v16]:List Tr)).bind fun v20=>(some (v20,v17,v18,v19)))) (nA k v2 (IntKind.i64.wrap (v3+1)) v4))))))))))
def nA:Nat→bI→Int→Int→Option (Tr×bI×Int×Int)
 | 0,_,_,_=>none
 | k21+1,c0_0,c0_1,c0_2=>((bH k21 c0_0 c0_1 c0_2 ([41]:List UInt8)).bind fun (v22,v23,v24,v25)=>(iteS v22 ((kG k21 22 ([]:List UInt8) ([]:List Tr)).bind fun v26=>(some (v26,v23,v24,v25))) ((bA k21 v23 v24 v25).bind fun (v27,v28,v29,v30)=>((bH k21 v28 v29 v30 ([44]:List UInt8)).bind fun (v31,v32,v33,v34)=>(iteS v31 ((bA k21 v32 v33 v34).bind fun (v35,v36,v37,v38)=>((kG k21 26 ([]:List UInt8) ([v27,v35]:List Tr)).bind fun v39=>((bB k21 v36 v37 v38 ([([41]:List UInt8)]:List (List UInt8))).bind fun (v40,v41,v42)=>(some (v39,v40,v41,v42))))) ((bB k21 v32 v33 v34 ([([41]:List UInt8)]:List (List UInt8))).bind fun (v43,v44,v45)=>(some (v27,v43,v44,v45))))))))
def eE:Nat→bI→Int→Int→Option (Tr×bI×Int×Int)
 | 0,_,_,_=>none
 | k+1,p0,p1,p2=>((cH k p0 p1 p2).bind fun (v1,v2,v3,v4)=>(dI k v1 v2 v3 v4))
def dI:Nat→Tr→bI→Int→Int→Option (Tr×bI×Int×Int)
 | 0,_,_,_,_=>none
 | k5+1,w0_0,w0_1,w0_2,w0_3=>((hP k5 w0_1 w0_2 w0_3).bind fun (v6,v7,v8,v9)=>(iteS v6 ((cH k5 v7 v8 v9).bind fun (v10,v11,v12,v13)=>((kG k5 25 ([]:List UInt8) ([w0_0,v10]:List Tr)).bind fun v14=>(dI k5 v14 v11 v12 v13))) (some (w0_0,v7,v8,v9))))
def iQ:Nat→bI→Int→Int→(List UInt8)→(List Int)→Option (Tr×bI×Int×Int)
 | 0,_,_,_,_,_=>none
 | k+1,p0,p1,p2,p3,p4=>((eE k p0 p1 p2).bind fun (v1,v2,v3,v4)=>(bF k p3 p4 v1 v2 v3 v4))
def bF:Nat→(List UInt8)→(List Int)→Tr→bI→Int→Int→Option (Tr×bI×Int×Int)
 | 0,_,_,_,_,_,_=>none
 | k5+1,w0_0,w0_1,w0_2,w0_3,w0_4,w0_5=>(dU k5 w0_0 w0_1 w0_2 0 w0_3 w0_4 w0_5)
def dU:Nat→(List UInt8)→(List Int)→Tr→Int→bI→Int→Int→Option (Tr×bI×Int×Int)
 | 0,_,_,_,_,_,_,_=>none
 | k6+1,w1_0,w1_1,w1_2,w1_3,w1_4,w1_5,w1_6=>(iteS (decide (w1_3<((w1_1.length:Nat):Int))) ((kA w1_0 w1_3 (IntKind.i64.wrap (w1_3+1))).bind fun v7=>((bH k6 w1_4 w1_5 w1_6 v7).bind fun (v8,v9,v10,v11)=>(iteS (!v8) (dU k6 w1_0 w1_1 w1_2 (IntKind.i64.wrap (w1_3+1)) v9 v10 v11) (iteS (decide (w1_3=((w1_1.length:Nat):Int))) (some (w1_2,v9,v10,v11)) ((aZ w1_1 w1_3).bind fun v12=>((eE k6 v9 v10 v11).bind fun (v13,v14,v15,v16)=>((aCa k6 v12 w1_2 v13).bind fun v17=>(bF k6 w1_0 w1_1 v17 v14 v15 v16)))))))) (iteS (decide (w1_3=((w1_1.length:Nat):Int))) (some (w1_2,w1_4,w1_5,w1_6)) ((aZ w1_1 w1_3).bind fun v18=>((eE k6 w1_4 w1_5 w1_6).bind fun (v19,v20,v21,v22)=>((aCa k6 v18 w1_2 v19).bind fun v23=>(bF k6 w1_0 w1_1 v23 v20 v21 v22))))))
def dV:Nat→bI→Int→Int→Option (Tr×bI×Int×Int)
 | 0,_,_,_=>none
 | k+1,p0,p1,p2=>((iQ k p0 p1 p2 ([42]:List UInt8) ([3]:List Int)).bind fun (v1,v2,v3,v4)=>(some (v1,v2,v3,v4)))
def kJ:Nat→bI→Int→Int→(List UInt8)→(List Int)→Option (Tr×bI×Int×Int)
 | 0,_,_,_,_,_=>none
 | k+1,p0,p1,p2,p3,p4=>((dV k p0 p1 p2).bind fun (v1,v2,v3,v4)=>(bJ k p3 p4 v1 v2 v3 v4))
def bJ:Nat→(List UInt8)→(List Int)→Tr→bI→Int→Int→Option (Tr×bI×Int×Int)
 | 0,_,_,_,_,_,_=>none
 | k5+1,w0_0,w0_1,w0_2,w0_3,w0_4,w0_5=>(cV k5 w0_0 w0_1 w0_2 0 w0_3 w0_4 w0_5)
def cV:Nat→(List UInt8)→(List Int)→Tr→Int→bI→Int→Int→Option (Tr×bI×Int×Int)
 | 0,_,_,_,_,_,_,_=>none
 | k6+1,w1_0,w1_1,w1_2,w1_3,w1_4,w1_5,w1_6=>(iteS (decide (w1_3<((w1_1.length:Nat):Int))) ((kA w1_0 w1_3 (IntKind.i64.wrap (w1_3+1))).bind fun v7=>((bH k6 w1_4 w1_5 w1_6 v7).bind fun (v8,v9,v10,v11)=>(iteS (!v8) (cV k6 w1_0 w1_1 w1_2 (IntKind.i64.wrap (w1_3+1)) v9 v10 v11) (iteS (decide (w1_3=((w1_1.length:Nat):Int))) (some (w1_2,v9,v10,v11)) ((aZ w1_1 w1_3).bind fun v12=>((dV k6 v9 v10 v11).bind fun (v13,v14,v15,v16)=>((aCa k6 v12 w1_2 v13).bind fun v17=>(bJ k6 w1_0 w1_1 v17 v14 v15 v16)))))))) (iteS (decide (w1_3=((w1_1.length:Nat):Int))) (some (w1_2,w1_4,w1_5,w1_6)) ((aZ w1_1 w1_3).bind fun v18=>((dV k6 w1_4 w1_5 w1_6).bind fun (v19,v20,v21,v22)=>((aCa k6 v18 w1_2 v19).bind fun v23=>(bJ k6 w1_0 w1_1 v23 v20 v21 v22))))))
def eR:Nat→bI→Int→Int→Option (Tr×bI×Int×Int)
 | 0,_,_,_=>none
 | k+1,p0,p1,p2=>((kJ k p0 p1 p2 ([43,45]:List UInt8) ([1,2]:List Int)).bind fun (v1,v2,v3,v4)=>(some (v1,v2,v3,v4)))
def gP:Nat→bI→Int→Int→Option (Tr×bI×Int×Int)
 | 0,_,_,_=>none
 | k+1,p0,p1,p2=>((eR k p0 p1 p2).bind fun (v1,v2,v3,v4)=>((bH k v2 v3 v4 ([61]:List UInt8)).bind fun (v5,v6,v7,v8)=>(iteS v5 ((eR k v6 v7 v8).bind fun (v9,v10,v11,v12)=>((aCa k 4 v1 v9).bind fun v13=>(some (v13,v10,v11,v12)))) ((bH k v6 v7 v8 ([60]:List UInt8)).bind fun (v14,v15,v16,v17)=>(iteS v14 ((eR k v15 v16 v17).bind fun (v18,v19,v20,v21)=>((aCa k 5 v1 v18).bind fun v22=>(some (v22,v19,v20,v21)))) (some (v1,v15,v16,v17)))))))
def iF:Nat→bI→Int→Int→Option ((List Tr)×bI×Int×Int)
 | 0,_,_,_=>none
 | k+1,p0,p1,p2=>(eC k ([]:List Tr) p0 p1 p2)
def eC:Nat→(List Tr)→bI→Int→Int→Option ((List Tr)×bI×Int×Int)
 | 0,_,_,_,_=>none
 | k1+1,w0_0,w0_1,w0_2,w0_3=>(iteS (decide (w0_3=0)) ((fL k1 w0_1 w0_2 w0_3).bind fun (v2,v3,v4,v5)=>((fL k1 v3 v4 v5).bind fun (v6,v7,v8,v9)=>((bB k1 v7 v8 v9 ([([61,62]:List UInt8)]:List (List UInt8))).bind fun (v10,v11,v12)=>((bA k1 v10 v11 v12).bind fun (v13,v14,v15,v16)=>((aCb 8 w0_0 ([(.node 34 0 v2 v6 ([v13]:List Tr))]:List Tr)).bind fun v17=>((bH k1 v14 v15 v16 ([124]:List UInt8)).bind fun (v18,v19,v20,v21)=>(iteS (!v18) ((bB k1 v19 v20 v21 ([([101,110,100]:List UInt8)]:List (List UInt8))).bind fun (v22,v23,v24)=>(some (v17,v22,v23,v24))) (eC k1 v17 v19 v20 v21)))))))) ((bB k1 w0_1 w0_2 w0_3 ([([101,110,100]:List UInt8)]:List (List UInt8))).bind fun (v25,v26,v27)=>(some (w0_0,v25,v26,v27))))
def bA:Nat→bI→Int→Int→Option (Tr×bI×Int×Int)
 | 0,_,_,_=>none
 | k+1,p0,p1,p2=>((bH k p0 p1 p2 ([102,110]:List UInt8)).bind fun (v1,v2,v3,v4)=>(iteS v1 ((bB k v2 v3 v4 ([([40]:List UInt8)]:List (List UInt8))).bind fun (v5,v6,v7)=>((fL k v5 v6 v7).bind fun (v8,v9,v10,v11)=>((bB k v9 v10 v11 ([([58]:List UInt8)]:List (List UInt8))).bind fun (v12,v13,v14)=>((jB k v12 v13 v14).bind fun (v15,v16,v17,v18)=>((bB k v16 v17 v18 ([([41]:List UInt8),([61,62]:List UInt8)]:List (List UInt8))).bind fun (v19,v20,v21)=>((bA k v19 v20 v21).bind fun (v22,v23,v24,v25)=>((kG k 24 v8 ([v15,v22]:List Tr)).bind fun v26=>(some (v26,v23,v24,v25))))))))) ((bH k v2 v3 v4 ([108,101,116]:List UInt8)).bind fun (v27,v28,v29,v30)=>(iteS v27 ((fL k v28 v29 v30).bind fun (v31,v32,v33,v34)=>((bB k v32 v33 v34 ([([61]:List UInt8)]:List (List UInt8))).bind fun (v35,v36,v37)=>((bA k v35 v36 v37).bind fun (v38,v39,v40,v41)=>((bB k v39 v40 v41 ([([105,110]:List UInt8)]:List (List UInt8))).bind fun (v42,v43,v44)=>((bA k v42 v43 v44).bind fun (v45,v46,v47,v48)=>((bB k v46 v47 v48 ([([101,110,100]:List UInt8)]:List (List UInt8))).bind fun (v49,v50,v51)=>((kG k 29 v31 ([v38,v45]:List Tr)).bind fun v52=>(some (v52,v49,v50,v51))))))))) ((bH k v28 v29 v30 ([105,102]:List UInt8)).bind fun (v53,v54,v55,v56)=>(iteS v53 ((bA k v54 v55 v56).bind fun (v57,v58,v59,v60)=>((bB k v58 v59 v60 ([([116,104,101,110]:List UInt8)]:List (List UInt8))).bind fun (v61,v62,v63)=>((bA k v61 v62 v63).bind fun (v64,v65,v66,v67)=>((bB k v65 v66 v67 ([([101,108,115,101]:List UInt8)]:List (List UInt8))).bind fun (v68,v69,v70)=>((bA k v68 v69 v70).bind fun (v71,v72,v73,v74)=>((kG k 30 ([]:List UInt8) ([v57,v64,v71]:List Tr)).bind fun v75=>(some (v75,v72,v73,v74)))))))) ((bH k v54 v55 v56 ([99,97,115,101]:List UInt8)).bind fun (v76,v77,v78,v79)=>(iteS v76 ((bA k v77 v78 v79).bind fun (v80,v81,v82,v83)=>((bB k v81 v82 v83 ([([111,102]:List UInt8)]:List (List UInt8))).bind fun (v84,v85,v86)=>((iF k v84 v85 v86).bind fun (v87,v88,v89,v90)=>((aCb 8 ([v80]:List Tr) v87).bind fun v91=>((kG k 32 ([]:List UInt8) v91).bind fun v92=>(some (v92,v88,v89,v90))))))) ((bH k v77 v78 v79 ([102,111,108,100]:List UInt8)).bind fun (v93,v94,v95,v96)=>(iteS v93 ((bA k v94 v95 v96).bind fun (v97,v98,v99,v100)=>((bB k v98 v99 v100 ([([116,111]:List UInt8)]:List (List UInt8))).bind fun (v101,v102,v103)=>((jB k v101 v102 v103).bind fun (v104,v105,v106,v107)=>((bB k v105 v106 v107 ([([111,102]:List UInt8)]:List (List UInt8))).bind fun (v108,v109,v110)=>((iF k v108 v109 v110).bind fun (v111,v112,v113,v114)=>((aCb 8 ([v97,v104]:List Tr) v111).bind fun v115=>((kG k 33 ([]:List UInt8) v115).bind fun v116=>(some (v116,v112,v113,v114))))))))) ((gP k v94 v95 v96).bind fun (v117,v118,v119,v120)=>(some (v117,v118,v119,v120)))))))))))))
end
def aES (k:Nat) (p0:bI) (p1:Int):Option (Tr×Int×Int):=(iteS (decide (p1<0)) (some (.nil,0,2)) (iteS (decide (((p0.length:Nat):Int)<p1)) (some (.nil,0,2)) ((bA k p0 p1 0).bind fun (v1,_v2,v3,v4)=>(iteS (!decide (v4=0)) (some (.nil,v3,v4)) (some (v1,v3,0))))))
def hY (k:Nat) (p0:bI) (p1:Int) (p2:Int):Option (Tr×bI×Int×Int):=(iteS (!decide (p2=0)) (some (.nil,p0,p1,p2)) ((aES k p0 p1).bind fun (v1,v2,v3)=>((dR k p0 v2 p2 v3).bind fun (v4,v5,v6)=>(some (v1,v4,v5,v6)))))
def mA (k:Nat) (p0:bI) (p1:Int) (p2:Int):Option (Tr×bI×Int×Int):=((hY k p0 p1 p2).bind fun (v1,v2,v3,v4)=>(some (v1,v2,v3,v4)))
def fG (k:Nat) (p0:bI) (p1:Int) (p2:Int) (p3:(List UInt8)):Option (Tr×bI×Int×Int):=((bE k p0 p1 p2 ([p3]:List (List UInt8))).bind fun (v1,v2,v3)=>((mA k v1 v2 v3).bind fun (v4,v5,v6,v7)=>(some (v4,v5,v6,v7))))
def eU (k:Nat) (p0:bI) (p1:Int) (p2:Int) (p3:(List UInt8)):Option (Tr×bI×Int×Int):=((bE k p0 p1 p2 ([p3]:List (List UInt8))).bind fun (v1,v2,v3)=>((iT k v1 v2 v3).bind fun (v4,v5,v6,v7)=>(some (v4,v5,v6,v7))))
def gR (_k:Nat) (p0:Int) (p1:(List UInt8)) (p2:(List Tr)):Option (Tr):=(some (.node p0 0 p1 ([]:List UInt8) p2))
def aEW (k:Nat) (p0:bI) (p1:Int):Option ((List Tr)×Int×Int):=((aAV k p0 p1).bind fun (v1,v2,v3)=>((fO k v1 v2 v3).bind fun (v4,_v5,v6,v7)=>(iteS (!decide (v7=0)) (some (([]:List Tr),v6,v7)) (some (v4,v6,0)))))
def kN (k:Nat) (p0:bI) (p1:Int) (p2:Int):Option ((List Tr)×bI×Int×Int):=(iteS (!decide (p2=0)) (some (([]:List Tr),p0,p1,p2)) ((aEW k p0 p1).bind fun (v1,v2,v3)=>((dR k p0 v2 p2 v3).bind fun (v4,v5,v6)=>(some (v1,v4,v5,v6)))))
def iD (k:Nat) (p0:bI) (p1:Int) (p2:Int):Option ((List UInt8)×bI×Int×Int):=((aAz k p0 p1).bind fun (v1,v2)=>(iteS (!decide (p2=0)) ((dR k p0 p1 p2 6).bind fun (v3,v4,v5)=>(some (([]:List UInt8),v3,v4,v5))) (iteS (!v2) ((dR k p0 p1 p2 6).bind fun (v6,v7,v8)=>(some (([]:List UInt8),v6,v7,v8))) (some (v1,p0,(IntKind.i64.wrap (p1+1)),p2)))))
def dB (k:Nat) (p0:bI) (p1:Int) (p2:Int):Option ((List UInt8)×bI×Int×Int):=((iD k p0 p1 p2).bind fun (v1,v2,v3,v4)=>(some (v1,v2,v3,v4)))
mutual
def dL:Nat→bI→Int→Int→(List UInt8)→Option (Tr×bI×Int×Int)
 | 0,_,_,_,_=>none
 | k+1,p0,p1,p2,p3=>((bE k p0 p1 p2 ([p3]:List (List UInt8))).bind fun (v1,v2,v3)=>((dJ k v1 v2 v3).bind fun (v4,v5,v6,v7)=>(some (v4,v5,v6,v7))))
def eS:Nat→bI→Int→Int→Option (Tr×bI×Int×Int)
 | 0,_,_,_=>none
 | k+1,p0,p1,p2=>((aT k p0 p1 p2 ([118,97,108]:List UInt8)).bind fun (v1,v2,v3,v4)=>(iteS v1 ((bU k v2 v3 v4).bind fun (v5,v6,v7,v8)=>((eU k v6 v7 v8 ([58]:List UInt8)).bind fun (v9,v10,v11,v12)=>((gR k 60 v5 ([v9]:List Tr)).bind fun v13=>(some (v13,v10,v11,v12))))) ((aT k v2 v3 v4 ([116,121,112,101]:List UInt8)).bind fun (v14,v15,v16,v17)=>(iteS v14 ((bU k v15 v16 v17).bind fun (v18,v19,v20,v21)=>((aT k v19 v20 v21 ([61]:List UInt8)).bind fun (v22,v23,v24,v25)=>(iteS (!v22) ((gR k 61 v18 ([]:List Tr)).bind fun v26=>(some (v26,v23,v24,v25))) ((iT k v23 v24 v25).bind fun (v27,v28,v29,v30)=>((gR k 61 v18 ([v27]:List Tr)).bind fun v31=>(some (v31,v28,v29,v30))))))) ((aT k v15 v16 v17 ([100,97,116,97,116,121,112,101]:List UInt8)).bind fun (v32,v33,v34,v35)=>(iteS v32 ((bU k v33 v34 v35).bind fun (v36,v37,v38,v39)=>((bE k v37 v38 v39 ([([61]:List UInt8)]:List (List UInt8))).bind fun (v40,v41,v42)=>((kN k v40 v41 v42).bind fun (v43,v44,v45,v46)=>((gR k 62 v36 v43).bind fun v47=>(some (v47,v44,v45,v46)))))) ((aT k v33 v34 v35 ([115,116,114,117,99,116,117,114,101]:List UInt8)).bind fun (v48,v49,v50,v51)=>(iteS v48 ((bU k v49 v50 v51).bind fun (v52,v53,v54,v55)=>((dL k v53 v54 v55 ([58]:List UInt8)).bind fun (v56,v57,v58,v59)=>((gR k 63 v52 ([v56]:List Tr)).bind fun v60=>(some (v60,v57,v58,v59))))) ((aT k v49 v50 v51 ([105,110,99,108,117,100,101]:List UInt8)).bind fun (v61,v62,v63,v64)=>(iteS v61 ((dJ k v62 v63 v64).bind fun (v65,v66,v67,v68)=>((gR k 64 ([]:List UInt8) ([v65]:List Tr)).bind fun v69=>(some (v69,v66,v67,v68)))) ((aT k v62 v63 v64 ([115,104,97,114,105,110,103]:List UInt8)).bind fun (v70,v71,v72,v73)=>(iteS v70 ((bE k v71 v72 v73 ([([116,121,112,101]:List UInt8)]:List (List UInt8))).bind fun (v74,v75,v76)=>((dB k v74 v75 v76).bind fun (v77,v78,v79,v80)=>((bE k v78 v79 v80 ([([61]:List UInt8)]:List (List UInt8))).bind fun (v81,v82,v83)=>((dB k v81 v82 v83).bind fun (v84,v85,v86,v87)=>(some ((.node 65 0 v77 v84 ([]:List Tr)),v85,v86,v87)))))) (some (.nil,v71,v72,v73))))))))))))))
def gK:Nat→bI→Int→Int→Option (Tr×bI×Int×Int)
 | 0,_,_,_=>none
 | k+1,p0,p1,p2=>((aT k p0 p1 p2 ([115,105,103]:List UInt8)).bind fun (v1,v2,v3,v4)=>(iteS (!v1) ((bU k v2 v3 v4).bind fun (v5,v6,v7,v8)=>((qX k 51 v5).bind fun (v9,v10,v11,v12)=>(some ((.node v9 v10 v11 v12 ([]:List Tr)),v6,v7,v8)))) ((qX k 50 ([]:List UInt8)).bind fun (v13,v14,v15,v16)=>((eS k v2 v3 v4).bind fun (v17,v18,v19,v20)=>(bY k v17 v18 v19 v20 v13 v14 v15 v16 ([]:List Tr))))))
def bY:Nat→Tr→bI→Int→Int→Int→Int→(List UInt8)→(List UInt8)→(List Tr)→Option (Tr×bI×Int×Int)
 | 0,_,_,_,_,_,_,_,_,_=>none
 | k21+1,w0_0,w0_1,w0_2,w0_3,w0_4,w0_5,w0_6,w0_7,w0_8=>(match w0_0 with | .nil=>((bE k21 w0_1 w0_2 w0_3 ([([101,110,100]:List UInt8)]:List (List UInt8))).bind fun (v27,v28,v29)=>(some ((.node w0_4 w0_5 w0_6 w0_7 w0_8),v27,v28,v29))) | .node n22 n23 n24 n25 n26=>((aCb 8 w0_8 ([(.node n22 n23 n24 n25 n26)]:List Tr)).bind fun v30=>((eS k21 w0_1 w0_2 w0_3).bind fun (v31,v32,v33,v34)=>(bY k21 v31 v32 v33 v34 w0_4 w0_5 w0_6 w0_7 v30))))
def dJ:Nat→bI→Int→Int→Option (Tr×bI×Int×Int)
 | 0,_,_,_=>none
 | k+1,p0,p1,p2=>((gK k p0 p1 p2).bind fun (v1,v2,v3,v4)=>(dY k v1 v2 v3 v4))
def dY:Nat→Tr→bI→Int→Int→Option (Tr×bI×Int×Int)
 | 0,_,_,_,_=>none
 | k5+1,w0_0,w0_1,w0_2,w0_3=>((aT k5 w0_1 w0_2 w0_3 ([119,104,101,114,101]:List UInt8)).bind fun (v6,v7,v8,v9)=>(iteS v6 ((bE k5 v7 v8 v9 ([([116,121,112,101]:List UInt8)]:List (List UInt8))).bind fun (v10,v11,v12)=>((dB k5 v10 v11 v12).bind fun (v13,v14,v15,v16)=>((bE k5 v14 v15 v16 ([([61]:List UInt8)]:List (List UInt8))).bind fun (v17,v18,v19)=>((iT k5 v17 v18 v19).bind fun (v20,v21,v22,v23)=>((gR k5 52 v13 ([w0_0,v20]:List Tr)).bind fun v24=>(dY k5 v24 v21 v22 v23)))))) (some (w0_0,v7,v8,v9))))
end
mutual
def gQ:Nat→bI→Int→Int→Option (Tr×bI×Int×Int)
 | 0,_,_,_=>none
 | k+1,p0,p1,p2=>((aT k p0 p1 p2 ([115,116,114,117,99,116]:List UInt8)).bind fun (v1,v2,v3,v4)=>(iteS v1 ((lB k v2 v3 v4 false).bind fun (v5,v6,v7,v8)=>((bE k v6 v7 v8 ([([101,110,100]:List UInt8)]:List (List UInt8))).bind fun (v9,v10,v11)=>((gR k 40 ([]:List UInt8) v5).bind fun v12=>(some (v12,v9,v10,v11))))) ((aT k v2 v3 v4 ([40]:List UInt8)).bind fun (v13,v14,v15,v16)=>(iteS v13 ((eG k v14 v15 v16).bind fun (v17,v18,v19,v20)=>((bE k v18 v19 v20 ([([41]:List UInt8)]:List (List UInt8))).bind fun (v21,v22,v23)=>(some (v17,v21,v22,v23)))) ((wR k v14 v15).bind fun (v24,v25)=>(iteS v25 ((lK k v14 (IntKind.i64.wrap (v15+1)) ([40]:List UInt8)).bind fun v26=>(iteS v26 (iteS (decide (v16=0)) (nY k v24 v14 (IntKind.i64.wrap (v15+2)) v16) ((dB k v14 v15 v16).bind fun (v36,v37,v38,v39)=>((gR k 41 v36 ([]:List Tr)).bind fun v40=>(some (v40,v37,v38,v39))))) ((dB k v14 v15 v16).bind fun (v41,v42,v43,v44)=>((gR k 41 v41 ([]:List Tr)).bind fun v45=>(some (v45,v42,v43,v44)))))) ((dB k v14 v15 v16).bind fun (v46,v47,v48,v49)=>((gR k 41 v46 ([]:List Tr)).bind fun v50=>(some (v50,v47,v48,v49))))))))))
def nY:Nat→(List UInt8)→bI→Int→Int→Option (Tr×bI×Int×Int)
 | 0,_,_,_,_=>none
 | k27+1,c0_0,c0_1,c0_2,c0_3=>((eG k27 c0_1 c0_2 c0_3).bind fun (v28,v29,v30,v31)=>((bE k27 v29 v30 v31 ([([41]:List UInt8)]:List (List UInt8))).bind fun (v32,v33,v34)=>((gR k27 42 c0_0 ([v28]:List Tr)).bind fun v35=>(some (v35,v32,v33,v34)))))
def eG:Nat→bI→Int→Int→Option (Tr×bI×Int×Int)
 | 0,_,_,_=>none
 | k+1,p0,p1,p2=>((gQ k p0 p1 p2).bind fun (v1,v2,v3,v4)=>(dD k v1 v2 v3 v4))
def dD:Nat→Tr→bI→Int→Int→Option (Tr×bI×Int×Int)
 | 0,_,_,_,_=>none
 | k5+1,w0_0,w0_1,w0_2,w0_3=>((aT k5 w0_1 w0_2 w0_3 ([58]:List UInt8)).bind fun (v6,v7,v8,v9)=>(iteS v6 ((dJ k5 v7 v8 v9).bind fun (v10,v11,v12,v13)=>(dD k5 (.node 43 0 ([]:List UInt8) ([]:List UInt8) ([w0_0,v10]:List Tr)) v11 v12 v13)) ((aT k5 v7 v8 v9 ([58,62]:List UInt8)).bind fun (v14,v15,v16,v17)=>(iteS v14 ((dJ k5 v15 v16 v17).bind fun (v18,v19,v20,v21)=>(dD k5 (.node 43 1 ([]:List UInt8) ([]:List UInt8) ([w0_0,v18]:List Tr)) v19 v20 v21)) (some (w0_0,v15,v16,v17))))))
def eB:Nat→bI→Int→Int→(List UInt8)→Option (Tr×bI×Int×Int)
 | 0,_,_,_,_=>none
 | k+1,p0,p1,p2,p3=>((bE k p0 p1 p2 ([p3]:List (List UInt8))).bind fun (v1,v2,v3)=>((eG k v1 v2 v3).bind fun (v4,v5,v6,v7)=>(some (v4,v5,v6,v7))))
def eF:Nat→bI→Int→Int→Bool→Option (Tr×bI×Int×Int)
 | 0,_,_,_,_=>none
 | k+1,p0,p1,p2,p3=>((aT k p0 p1 p2 ([118,97,108]:List UInt8)).bind fun (v1,v2,v3,v4)=>(iteS v1 ((bU k v2 v3 v4).bind fun (v5,v6,v7,v8)=>((qX k 70 v5).bind fun (v9,v10,v11,v12)=>((aT k v6 v7 v8 ([58]:List UInt8)).bind fun (v13,v14,v15,v16)=>(iteS v13 ((iT k v14 v15 v16).bind fun (v17,v18,v19,v20)=>((aCb 8 ([]:List Tr) ([v17]:List Tr)).bind fun v21=>(cJ k v18 v19 v20 v9 v10 v11 v12 v21))) (cJ k v14 v15 v16 v9 v10 v11 v12 ([]:List Tr)))))) ((aT k v2 v3 v4 ([116,121,112,101]:List UInt8)).bind fun (v28,v29,v30,v31)=>(iteS v28 ((bU k v29 v30 v31).bind fun (v32,v33,v34,v35)=>((eU k v33 v34 v35 ([61]:List UInt8)).bind fun (v36,v37,v38,v39)=>((gR k 71 v32 ([v36]:List Tr)).bind fun v40=>(some (v40,v37,v38,v39))))) ((aT k v29 v30 v31 ([100,97,116,97,116,121,112,101]:List UInt8)).bind fun (v41,v42,v43,v44)=>(iteS v41 ((bU k v42 v43 v44).bind fun (v45,v46,v47,v48)=>((bE k v46 v47 v48 ([([61]:List UInt8)]:List (List UInt8))).bind fun (v49,v50,v51)=>((kN k v49 v50 v51).bind fun (v52,v53,v54,v55)=>((gR k 72 v45 v52).bind fun v56=>(some (v56,v53,v54,v55)))))) ((aT k v42 v43 v44 ([115,116,114,117,99,116,117,114,101]:List UInt8)).bind fun (v57,v58,v59,v60)=>(iteS v57 ((bU k v58 v59 v60).bind fun (v61,v62,v63,v64)=>((eB k v62 v63 v64 ([61]:List UInt8)).bind fun (v65,v66,v67,v68)=>((gR k 73 v61 ([v65]:List Tr)).bind fun v69=>(some (v69,v66,v67,v68))))) ((aT k v58 v59 v60 ([111,112,101,110]:List UInt8)).bind fun (v70,v71,v72,v73)=>(iteS v70 ((dB k v71 v72 v73).bind fun (v74,v75,v76,v77)=>((qX k 76 v74).bind fun (v78,v79,v80,v81)=>(some ((.node v78 v79 v80 v81 ([]:List Tr)),v75,v76,v77)))) ((aT k v71 v72 v73 ([105,110,99,108,117,100,101]:List UInt8)).bind fun (v82,v83,v84,v85)=>(iteS v82 ((dB k v83 v84 v85).bind fun (v86,v87,v88,v89)=>((qX k 77 v86).bind fun (v90,v91,v92,v93)=>(some ((.node v90 v91 v92 v93 ([]:List Tr)),v87,v88,v89)))) (iteS p3 ((aT k v83 v84 v85 ([115,105,103,110,97,116,117,114,101]:List UInt8)).bind fun (v94,v95,v96,v97)=>(iteS v94 ((bU k v95 v96 v97).bind fun (v98,v99,v100,v101)=>((dL k v99 v100 v101 ([61]:List UInt8)).bind fun (v102,v103,v104,v105)=>((gR k 74 v98 ([v102]:List Tr)).bind fun v106=>(some (v106,v103,v104,v105))))) ((aT k v95 v96 v97 ([102,117,110,99,116,111,114]:List UInt8)).bind fun (v107,v108,v109,v110)=>(iteS v107 ((bU k v108 v109 v110).bind fun (v111,v112,v113,v114)=>((qX k 75 v111).bind fun (v115,v116,v117,v118)=>(gV k v112 v113 v114 v115 v116 v117 v118))) (some (.nil,v108,v109,v110)))))) (some (.nil,v83,v84,v85)))))))))))))))
def cJ:Nat→bI→Int→Int→Int→Int→(List UInt8)→(List UInt8)→(List Tr)→Option (Tr×bI×Int×Int)
 | 0,_,_,_,_,_,_,_,_=>none
 | k22+1,c0_0,c0_1,c0_2,c0_3,c0_4,c0_5,c0_6,c0_7=>((fG k22 c0_0 c0_1 c0_2 ([61]:List UInt8)).bind fun (v23,v24,v25,v26)=>((aCb 8 c0_7 ([v23]:List Tr)).bind fun v27=>(some ((.node c0_3 c0_4 c0_5 c0_6 v27),v24,v25,v26))))
def gV:Nat→bI→Int→Int→Int→Int→(List UInt8)→(List UInt8)→Option (Tr×bI×Int×Int)
 | 0,_,_,_,_,_,_,_=>none
 | k119+1,c1_0,c1_1,c1_2,c1_3,c1_4,c1_5,_c1_6=>((bE k119 c1_0 c1_1 c1_2 ([([40]:List UInt8)]:List (List UInt8))).bind fun (v120,v121,v122)=>((bU k119 v120 v121 v122).bind fun (v123,v124,v125,v126)=>((dL k119 v124 v125 v126 ([58]:List UInt8)).bind fun (v127,v128,v129,v130)=>((bE k119 v128 v129 v130 ([([41]:List UInt8)]:List (List UInt8))).bind fun (v131,v132,v133)=>((eB k119 v131 v132 v133 ([61]:List UInt8)).bind fun (v134,v135,v136,v137)=>(some ((.node c1_3 c1_4 c1_5 v123 ([v127,v134]:List Tr)),v135,v136,v137)))))))
def lB:Nat→bI→Int→Int→Bool→Option ((List Tr)×bI×Int×Int)
 | 0,_,_,_,_=>none
 | k+1,p0,p1,p2,p3=>((eF k p0 p1 p2 p3).bind fun (v1,v2,v3,v4)=>(bM k p3 ([]:List Tr) v1 v2 v3 v4))
def bM:Nat→Bool→(List Tr)→Tr→bI→Int→Int→Option ((List Tr)×bI×Int×Int)
 | 0,_,_,_,_,_,_=>none
 | k5+1,w0_0,w0_1,w0_2,w0_3,w0_4,w0_5=>(match w0_2 with | .nil=>(some (w0_1,w0_3,w0_4,w0_5)) | .node n6 n7 n8 n9 n10=>((aCb 8 w0_1 ([(.node n6 n7 n8 n9 n10)]:List Tr)).bind fun v11=>((eF k5 w0_3 w0_4 w0_5 w0_0).bind fun (v12,v13,v14,v15)=>(bM k5 w0_0 v11 v12 v13 v14 v15))))
end
def aE2 (k:Nat) (p0:bI) (p1:Int) (p2:Bool):Option ((List Tr)×Int×Int):=((aE3 k p0 p1).bind fun (v1,v2,v3)=>((lB k v1 v2 v3 p2).bind fun (v4,_v5,v6,v7)=>(iteS (!decide (v7=0)) (some (([]:List Tr),v6,v7)) (some (v4,v6,0)))))
mutual
def rO:Nat→Tr→Option (Int)
 | 0,_=>none
 | k+1,p0=>(match p0 with | .nil=>(some 0) | .node _n1 _n2 _n3 _n4 n5=>(pE k 1 n5 0))
def pE:Nat→Int→(List Tr)→Int→Option (Int)
 | 0,_,_,_=>none
 | k6+1,w0_0,w0_1,w0_2=>(iteS (decide (w0_2<((w0_1.length:Nat):Int))) ((aZ w0_1 w0_2).bind fun v7=>((rO k6 v7).bind fun v8=>(pE k6 (IntKind.i64.wrap (w0_0+v8)) w0_1 (IntKind.i64.wrap (w0_2+1))))) (some w0_0))
end
mutual
def mD:Nat→Tr→Option (Int)
 | 0,_=>none
 | k+1,p0=>(match p0 with | .nil=>(some 0) | .node _n1 _n2 _n3 _n4 n5=>(oV k 0 n5 0))
def oV:Nat→Int→(List Tr)→Int→Option (Int)
 | 0,_,_,_=>none
 | k6+1,w0_0,w0_1,w0_2=>(iteS (decide (w0_2<((w0_1.length:Nat):Int))) ((aZ w0_1 w0_2).bind fun v7=>((mD k6 v7).bind fun v8=>(oV k6 (if w0_0<v8 then v8 else w0_0) w0_1 (IntKind.i64.wrap (w0_2+1))))) (some (IntKind.i64.wrap (w0_0+1))))
end
def gA:Nat→(List UInt8)→Int→bI→(List Tr)→Int→Option (Tr×Int×Int)
 | 0,_,_,_,_,_=>none
 | k7+1,c0_0,c0_1,c0_2,c0_3,c0_4=>(iteS (!decide (c0_1=0)) (iteS (decide (c0_4<((c0_2.length:Nat):Int))) ((aZ c0_2 c0_4).bind fun v8=>(some (.nil,v8.2.2.2,c0_1))) (some (.nil,((c0_0.length:Nat):Int),c0_1))) ((gR k7 80 ([]:List UInt8) c0_3).bind fun v9=>((rO k7 v9).bind fun v10=>(iteS (decide (8192<v10)) (some (.nil,0,3)) ((mD k7 v9).bind fun v11=>(iteS (decide (60<v11)) (some (.nil,0,7)) (some (v9,0,0))))))))
def kK (k:Nat) (p0:(List UInt8)):Option (Tr×Int×Int):=((qJ k p0).bind fun (v1,v2,v3)=>(iteS (!decide (v3=0)) (some (.nil,v2,v3)) ((aE2 k v1 0 true).bind fun (v4,v5,v6)=>(iteS (decide (v6=0)) (iteS (decide (v5<((v1.length:Nat):Int))) (gA k p0 6 v1 v4 v5) (gA k p0 v6 v1 v4 v5)) (gA k p0 v6 v1 v4 v5)))))
mutual
def uS:Nat→Tr→Option (Bool)
 | 0,_=>none
 | k+1,p0=>((qP k p0).bind fun v1=>(some (!v1)))
def slices_IndexFunc:Nat→(List Tr)→Option (Int)
 | 0,_=>none
 | k+1,p0=>(fD k p0 0)
def fD:Nat→(List Tr)→Int→Option (Int)
 | 0,_,_=>none
 | k1+1,w0_0,w0_1=>(iteS (decide (w0_1<((w0_0.length:Nat):Int))) ((aZ w0_0 w0_1).bind fun v2=>((uS k1 v2).bind fun v3=>(iteS v3 (some w0_1) (fD k1 w0_0 (IntKind.i64.wrap (w0_1+1)))))) (some (-1)))
def slices_ContainsFunc:Nat→(List Tr)→Option (Bool)
 | 0,_=>none
 | k+1,p0=>((slices_IndexFunc k p0).bind fun v1=>(some (decide (0≤v1))))
def qP:Nat→Tr→Option (Bool)
 | 0,_=>none
 | k+1,p0=>(match p0 with | .nil=>(some false) | .node _n1 _n2 _n3 _n4 n5=>((slices_ContainsFunc k n5).bind fun v6=>(some (!v6))))
end
mutual
def qW:Nat→Tr→(List (Int×Int×(List UInt8)×(List UInt8)×(List Int)))→Option (Int×(List (Int×Int×(List UInt8)×(List UInt8)×(List Int))))
 | 0,_,_=>none
 | k+1,p0,p1=>(match p0 with | .nil=>none | .node n1 n2 n3 n4 n5=>(lM k n5 0 p1 n1 n2 n3 n4 ([]:List Int)))
def lM:Nat→(List Tr)→Int→(List (Int×Int×(List UInt8)×(List UInt8)×(List Int)))→Int→Int→(List UInt8)→(List UInt8)→(List Int)→Option (Int×(List (Int×Int×(List UInt8)×(List UInt8)×(List Int))))
 | 0,_,_,_,_,_,_,_,_=>none
 | k6+1,w0_0,w0_1,w0_2,w0_3,w0_4,w0_5,w0_6,w0_7=>(iteS (decide (w0_1<((w0_0.length:Nat):Int))) ((aZ w0_0 w0_1).bind fun v7=>((qW k6 v7 w0_2).bind fun (v8,v9)=>((aCb 8 w0_7 ([v8]:List Int)).bind fun v10=>(lM k6 w0_0 (IntKind.i64.wrap (w0_1+1)) v9 w0_3 w0_4 w0_5 w0_6 v10)))) ((aCb 72 w0_2 ([(w0_3,w0_4,w0_5,w0_6,w0_7)]:List (Int×Int×(List UInt8)×(List UInt8)×(List Int)))).bind fun v11=>(some ((IntKind.i64.wrap (((v11.length:Nat):Int) - 1)),v11))))
end
def wO (k:Nat) (p0:Tr):Option ((List (Int×Int×(List UInt8)×(List UInt8)×(List Int)))×Int):=((qP k p0).bind fun v1=>(iteS (!v1) (some (([]:List (Int×Int×(List UInt8)×(List UInt8)×(List Int))),1)) ((rO k p0).bind fun v2=>(iteS (decide (8192<v2)) (some (([]:List (Int×Int×(List UInt8)×(List UInt8)×(List Int))),3)) ((qW k p0 ([]:List (Int×Int×(List UInt8)×(List UInt8)×(List Int)))).bind fun (_v3,v4)=>(some (v4,0)))))))
def bK (_k:Nat) (p0:Tr) (p1:Bool) (p2:Bool) (p3:Bool):Option (Bool):=(iteS p1 (iteS p2 (iteS p3 (some true) (match p0 with | .nil=>none | .node _n1 n2 _n3 _n4 _n5=>(some (decide (n2=0))))) (match p0 with | .nil=>none | .node _n6 n7 _n8 n9 _n10=>(iteS (decide (n9=([]:List UInt8))) (iteS p3 (some true) (some (decide (n7=0)))) (some false)))) (match p0 with | .nil=>none | .node _n11 n12 n13 n14 _n15=>(iteS (decide (n13=([]:List UInt8))) (iteS p2 (iteS p3 (some true) (some (decide (n12=0)))) (iteS (decide (n14=([]:List UInt8))) (iteS p3 (some true) (some (decide (n12=0)))) (some false))) (some false))))
def zM:Nat→Tr→Option (Bool)
 | 0,_=>none
 | _k6+1,_w0_0=>(some true)
def iC (k:Nat) (p0:Tr):Option (Bool):=(match p0 with | .nil=>none | .node n1 n2 n3 n4 n5=>(iteS (!decide (((n5.length:Nat):Int)=0)) (some false) (zM k (.node n1 n2 n3 n4 n5))))
mutual
def rI:Nat→Tr→Option (Bool)
 | 0,_=>none
 | k+1,p0=>(match p0 with | .nil=>none | .node n1 n2 n3 n4 n5=>(pF k (.node n1 n2 n3 n4 n5) n5 0 ([]:List ((List UInt8)×Bool))))
def pF:Nat→Tr→(List Tr)→Int→(List ((List UInt8)×Bool))→Option (Bool)
 | 0,_,_,_,_=>none
 | k6+1,w0_0,w0_1,w0_2,w0_3=>(iteS (decide (w0_2<((w0_1.length:Nat):Int))) ((aZ w0_1 w0_2).bind fun v7=>(match v7 with | .nil=>none | .node n8 n9 n10 n11 n12=>(iteS (!decide (n8=8)) (some false) ((bK k6 (.node n8 n9 n10 n11 n12) true false false).bind fun v13=>(iteS (!v13) (some false) ((eL k6 n10).bind fun v14=>(iteS (!v14) (some false) (iteS ((jN w0_3 n10).getD false) (some false) ((mN k6 (.node n8 n9 n10 n11 n12)).bind fun v15=>(iteS (!v15) (some false) (pF k6 w0_0 w0_1 (IntKind.i64.wrap (w0_2+1)) (aFL w0_3 n10 true)))))))))))) (match w0_0 with | .nil=>none | .node _n16 _n17 _n18 _n19 n20=>(some (decide (0<((n20.length:Nat):Int))))))
def uF:Nat→Tr→Option (Bool)
 | 0,_=>none
 | k+1,p0=>(match p0 with | .nil=>none | .node _n1 _n2 _n3 _n4 n5=>(iteS (!decide (((n5.length:Nat):Int)=2)) (some false) ((aZ n5 0).bind fun v6=>((fB k v6).bind fun v7=>(iteS (!v7) (some false) ((aZ n5 1).bind fun v8=>((fB k v8).bind fun v9=>(iteS (!v9) (some false) (some true)))))))))
def fB:Nat→Tr→Option (Bool)
 | 0,_=>none
 | k+1,p0=>(match p0 with | .nil=>none | .node n1 n2 n3 n4 n5=>(iteS (decide (n1=1)) ((bK k (.node n1 n2 n3 n4 n5) false false false).bind fun v6=>(iteS v6 ((iC k (.node n1 n2 n3 n4 n5)).bind fun v7=>(some v7)) (some false))) (iteS (decide (n1=2)) ((bK k (.node n1 n2 n3 n4 n5) false false false).bind fun v8=>(iteS v8 ((iC k (.node n1 n2 n3 n4 n5)).bind fun v9=>(some v9)) (some false))) (iteS (decide (n1=3)) ((bK k (.node n1 n2 n3 n4 n5) false false false).bind fun v10=>(iteS v10 ((iC k (.node n1 n2 n3 n4 n5)).bind fun v11=>(some v11)) (some false))) (iteS (decide (n1=4)) ((bK k (.node n1 n2 n3 n4 n5) true false false).bind fun v12=>(iteS v12 ((lZ k n3).bind fun v13=>(iteS v13 ((iC k (.node n1 n2 n3 n4 n5)).bind fun v14=>(some v14)) (some false))) (some false))) (iteS (decide (n1=5)) ((bK k (.node n1 n2 n3 n4 n5) false false false).bind fun v15=>(iteS v15 ((uF k (.node n1 n2 n3 n4 n5)).bind fun v16=>(some v16)) (some false))) (iteS (decide (n1=6)) ((bK k (.node n1 n2 n3 n4 n5) false false false).bind fun v17=>(iteS v17 ((uF k (.node n1 n2 n3 n4 n5)).bind fun v18=>(some v18)) (some false))) (iteS (decide (n1=7)) ((bK k (.node n1 n2 n3 n4 n5) true false false).bind fun v19=>(iteS v19 ((eL k n3).bind fun v20=>(iteS v20 ((rI k (.node n1 n2 n3 n4 n5)).bind fun v21=>(some v21)) (some false))) (some false))) (some false)))))))))
def mN:Nat→Tr→Option (Bool)
 | 0,_=>none
 | k+1,p0=>(match p0 with | .nil=>none | .node _n1 _n2 _n3 _n4 n5=>(iteS (!decide (((n5.length:Nat):Int)=1)) (some false) ((aZ n5 0).bind fun v6=>((fB k v6).bind fun v7=>(iteS (!v7) (some false) (some true))))))
end
mutual
def uT:Nat→Tr→Option (Bool)
 | 0,_=>none
 | k+1,p0=>(match p0 with | .nil=>none | .node _n1 _n2 _n3 _n4 n5=>(iteS (!decide (((n5.length:Nat):Int)=2)) (some false) ((aZ n5 0).bind fun v6=>((lN k v6).bind fun v7=>(iteS (!v7) (some false) ((aZ n5 1).bind fun v8=>((fB k v8).bind fun v9=>(iteS (!v9) (some false) (some true)))))))))
def tV:Nat→Tr→Option (Bool)
 | 0,_=>none
 | k+1,p0=>(match p0 with | .nil=>none | .node n1 n2 n3 n4 n5=>(iteS (decide (n1=64)) ((bK k (.node n1 n2 n3 n4 n5) false false false).bind fun v6=>(iteS v6 ((oQ k (.node n1 n2 n3 n4 n5)).bind fun v7=>(some v7)) (some false))) (iteS (decide (n1=65)) ((bK k (.node n1 n2 n3 n4 n5) true true false).bind fun v8=>(iteS v8 ((lZ k n3).bind fun v9=>(iteS v9 ((lZ k n4).bind fun v10=>(iteS v10 ((iC k (.node n1 n2 n3 n4 n5)).bind fun v11=>(some v11)) (some false))) (some false))) (some false))) ((bK k (.node n1 n2 n3 n4 n5) true false false).bind fun v12=>(iteS (!v12) (some false) ((eL k n3).bind fun v13=>(iteS (!v13) (some false) (iteS (decide (n1=60)) ((mN k (.node n1 n2 n3 n4 n5)).bind fun v14=>(some v14)) (iteS (decide (n1=61)) ((iC k (.node n1 n2 n3 n4 n5)).bind fun v15=>(iteS v15 (some true) ((mN k (.node n1 n2 n3 n4 n5)).bind fun v16=>(some v16)))) (iteS (decide (n1=62)) ((rI k (.node n1 n2 n3 n4 n5)).bind fun v17=>(some v17)) (iteS (decide (n1=63)) ((oQ k (.node n1 n2 n3 n4 n5)).bind fun v18=>(some v18)) (some false))))))))))))
def yA:Nat→Tr→Int→Option (Bool)
 | 0,_,_=>none
 | k+1,p0,p1=>(match p0 with | .nil=>none | .node _n1 _n2 _n3 _n4 n5=>((kA n5 p1 ((n5.length:Nat):Int)).bind fun v6=>(qG k v6 0)))
def qG:Nat→(List Tr)→Int→Option (Bool)
 | 0,_,_=>none
 | k7+1,w0_0,w0_1=>(iteS (decide (w0_1<((w0_0.length:Nat):Int))) ((aZ w0_0 w0_1).bind fun v8=>((tV k7 v8).bind fun v9=>(iteS (!v9) (some false) (qG k7 w0_0 (IntKind.i64.wrap (w0_1+1)))))) (some true))
def lN:Nat→Tr→Option (Bool)
 | 0,_=>none
 | k+1,p0=>(match p0 with | .nil=>none | .node n1 n2 n3 n4 n5=>(iteS (decide (n1=50)) ((bK k (.node n1 n2 n3 n4 n5) false false false).bind fun v6=>(iteS v6 ((yA k (.node n1 n2 n3 n4 n5) 0).bind fun v7=>(some v7)) (some false))) (iteS (decide (n1=51)) ((bK k (.node n1 n2 n3 n4 n5) true false false).bind fun v8=>(iteS v8 ((eL k n3).bind fun v9=>(iteS v9 ((iC k (.node n1 n2 n3 n4 n5)).bind fun v10=>(some v10)) (some false))) (some false))) (iteS (decide (n1=52)) ((bK k (.node n1 n2 n3 n4 n5) true false false).bind fun v11=>(iteS v11 ((lZ k n3).bind fun v12=>(iteS v12 ((uT k (.node n1 n2 n3 n4 n5)).bind fun v13=>(some v13)) (some false))) (some false))) (some false)))))
def oQ:Nat→Tr→Option (Bool)
 | 0,_=>none
 | k+1,p0=>(match p0 with | .nil=>none | .node _n1 _n2 _n3 _n4 n5=>(iteS (!decide (((n5.length:Nat):Int)=1)) (some false) ((aZ n5 0).bind fun v6=>((lN k v6).bind fun v7=>(iteS (!v7) (some false) (some true))))))
end
mutual
def tK:Nat→Tr→Option (Bool)
 | 0,_=>none
 | k+1,p0=>(match p0 with | .nil=>none | .node n1 n2 n3 n4 n5=>(iteS (decide (n1=34)) ((bK k (.node n1 n2 n3 n4 n5) true true false).bind fun v6=>(iteS v6 ((eL k n3).bind fun v7=>(iteS v7 ((eL k n4).bind fun v8=>(iteS v8 ((qS k (.node n1 n2 n3 n4 n5)).bind fun v9=>(some v9)) (some false))) (some false))) (some false))) (some false)))
def aBU:Nat→Tr→Int→Option (Bool)
 | 0,_,_=>none
 | k+1,p0,p1=>(match p0 with | .nil=>none | .node _n1 _n2 _n3 _n4 n5=>((kA n5 p1 ((n5.length:Nat):Int)).bind fun v6=>(qI k v6 0)))
def qI:Nat→(List Tr)→Int→Option (Bool)
 | 0,_,_=>none
 | k7+1,w0_0,w0_1=>(iteS (decide (w0_1<((w0_0.length:Nat):Int))) ((aZ w0_0 w0_1).bind fun v8=>((tK k7 v8).bind fun v9=>(iteS (!v9) (some false) (qI k7 w0_0 (IntKind.i64.wrap (w0_1+1)))))) (some true))
def aAp:Nat→Tr→Int→Option (Bool)
 | 0,_,_=>none
 | k+1,p0,p1=>(match p0 with | .nil=>none | .node n1 n2 n3 n4 n5=>(iteS (decide (p1<((n5.length:Nat):Int))) ((aBU k (.node n1 n2 n3 n4 n5) p1).bind fun v6=>(some v6)) (some false)))
def uA:Nat→Tr→Option (Bool)
 | 0,_=>none
 | k+1,p0=>(match p0 with | .nil=>none | .node _n1 _n2 _n3 _n4 n5=>(iteS (!decide (((n5.length:Nat):Int)=2)) (some false) ((aZ n5 0).bind fun v6=>((fW k v6).bind fun v7=>(iteS (!v7) (some false) ((aZ n5 1).bind fun v8=>((fW k v8).bind fun v9=>(iteS (!v9) (some false) (some true)))))))))
def qM:Nat→Tr→Option (Bool)
 | 0,_=>none
 | k+1,p0=>(match p0 with | .nil=>none | .node _n1 _n2 _n3 _n4 n5=>(iteS (!decide (((n5.length:Nat):Int)=2)) (some false) ((aZ n5 0).bind fun v6=>((fB k v6).bind fun v7=>(iteS (!v7) (some false) ((aZ n5 1).bind fun v8=>((fW k v8).bind fun v9=>(iteS (!v9) (some false) (some true)))))))))
def aEY:Nat→Tr→Int→Option (Bool)
 | 0,_,_=>none
 | k+1,p0,p1=>(match p0 with | .nil=>none | .node _n1 _n2 _n3 _n4 n5=>((kA n5 p1 ((n5.length:Nat):Int)).bind fun v6=>(uQ k v6 0)))
def uQ:Nat→(List Tr)→Int→Option (Bool)
 | 0,_,_=>none
 | k7+1,w0_0,w0_1=>(iteS (decide (w0_1<((w0_0.length:Nat):Int))) ((aZ w0_0 w0_1).bind fun v8=>((fW k7 v8).bind fun v9=>(iteS (!v9) (some false) (uQ k7 w0_0 (IntKind.i64.wrap (w0_1+1)))))) (some true))
def kZ:Nat→Tr→Int→Option (Bool)
 | 0,_,_=>none
 | k+1,p0,p1=>((bK k p0 false false false).bind fun v1=>(iteS v1 (match p0 with | .nil=>none | .node n2 n3 n4 n5 n6=>(iteS (decide (((n6.length:Nat):Int)=p1)) ((aEY k (.node n2 n3 n4 n5 n6) 0).bind fun v7=>(some v7)) (some false))) (some false)))
def fW:Nat→Tr→Option (Bool)
 | 0,_=>none
 | k+1,p0=>(match p0 with | .nil=>none | .node n1 n2 n3 n4 n5=>(iteS (decide (n1=20)) ((bK k (.node n1 n2 n3 n4 n5) false false true).bind fun v6=>(iteS v6 (iteS (decide ((-1073741824)≤n2)) (iteS (decide (n2≤1073741824)) ((iC k (.node n1 n2 n3 n4 n5)).bind fun v7=>(some v7)) (some false)) (some false)) (some false))) (iteS (decide (n1=21)) ((bK k (.node n1 n2 n3 n4 n5) false false true).bind fun v8=>(iteS v8 (iteS (decide (n2=0)) ((iC k (.node n1 n2 n3 n4 n5)).bind fun v9=>(some v9)) (iteS (decide (n2=1)) ((iC k (.node n1 n2 n3 n4 n5)).bind fun v10=>(some v10)) (some false))) (some false))) (iteS (decide (n1=22)) ((kZ k (.node n1 n2 n3 n4 n5) 0).bind fun v11=>(some v11)) (iteS (decide (n1=23)) ((bK k (.node n1 n2 n3 n4 n5) true false false).bind fun v12=>(iteS v12 ((lZ k n3).bind fun v13=>(iteS v13 ((iC k (.node n1 n2 n3 n4 n5)).bind fun v14=>(some v14)) (some false))) (some false))) (iteS (decide (n1=24)) ((bK k (.node n1 n2 n3 n4 n5) true false false).bind fun v15=>(iteS v15 ((eL k n3).bind fun v16=>(iteS v16 ((qM k (.node n1 n2 n3 n4 n5)).bind fun v17=>(some v17)) (some false))) (some false))) (iteS (decide (n1=25)) ((kZ k (.node n1 n2 n3 n4 n5) 2).bind fun v18=>(some v18)) (iteS (decide (n1=26)) ((kZ k (.node n1 n2 n3 n4 n5) 2).bind fun v19=>(some v19)) (iteS (decide (n1=27)) ((kZ k (.node n1 n2 n3 n4 n5) 1).bind fun v20=>(some v20)) (iteS (decide (n1=28)) ((kZ k (.node n1 n2 n3 n4 n5) 1).bind fun v21=>(some v21)) (iteS (decide (n1=29)) ((bK k (.node n1 n2 n3 n4 n5) true false false).bind fun v22=>(iteS v22 ((eL k n3).bind fun v23=>(iteS v23 ((uA k (.node n1 n2 n3 n4 n5)).bind fun v24=>(some v24)) (some false))) (some false))) (iteS (decide (n1=30)) ((kZ k (.node n1 n2 n3 n4 n5) 3).bind fun v25=>(some v25)) (iteS (decide (n1=31)) ((bK k (.node n1 n2 n3 n4 n5) false false true).bind fun v26=>(iteS v26 (iteS (decide (1≤n2)) (iteS (decide (n2≤5)) ((uA k (.node n1 n2 n3 n4 n5)).bind fun v27=>(some v27)) (some false)) (some false)) (some false))) (iteS (decide (n1=32)) ((bK k (.node n1 n2 n3 n4 n5) false false false).bind fun v28=>(iteS v28 ((aAp k (.node n1 n2 n3 n4 n5) 1).bind fun v29=>(iteS v29 ((aZ n5 0).bind fun v30=>((fW k v30).bind fun v31=>(some v31))) (some false))) (some false))) (iteS (decide (n1=33)) ((bK k (.node n1 n2 n3 n4 n5) false false false).bind fun v32=>(iteS v32 ((aAp k (.node n1 n2 n3 n4 n5) 2).bind fun v33=>(iteS v33 ((aZ n5 0).bind fun v34=>((fW k v34).bind fun v35=>(iteS v35 ((aZ n5 1).bind fun v36=>((fB k v36).bind fun v37=>(some v37))) (some false)))) (some false))) (some false))) (some false))))))))))))))))
def qS:Nat→Tr→Option (Bool)
 | 0,_=>none
 | k+1,p0=>(match p0 with | .nil=>none | .node _n1 _n2 _n3 _n4 n5=>(iteS (!decide (((n5.length:Nat):Int)=1)) (some false) ((aZ n5 0).bind fun v6=>((fW k v6).bind fun v7=>(iteS (!v7) (some false) (some true))))))
end
mutual
def tP:Nat→Tr→Option (Bool)
 | 0,_=>none
 | k+1,p0=>(match p0 with | .nil=>none | .node _n1 _n2 _n3 _n4 n5=>(iteS (!decide (((n5.length:Nat):Int)=2)) (some false) ((aZ n5 0).bind fun v6=>((pG k v6).bind fun v7=>(iteS (!v7) (some false) ((aZ n5 1).bind fun v8=>((lN k v8).bind fun v9=>(iteS (!v9) (some false) (some true)))))))))
def tG:Nat→Tr→Option (Bool)
 | 0,_=>none
 | k+1,p0=>(match p0 with | .nil=>none | .node _n1 _n2 _n3 _n4 n5=>(iteS (!decide (((n5.length:Nat):Int)=1)) (some false) ((aZ n5 0).bind fun v6=>((pG k v6).bind fun v7=>(iteS (!v7) (some false) (some true))))))
def pC:Nat→Tr→Option (Bool)
 | 0,_=>none
 | k+1,p0=>((bK k p0 true false false).bind fun v1=>(iteS (!v1) (some false) (match p0 with | .nil=>none | .node n2 n3 n4 n5 n6=>(iteS (decide (n2=76)) ((lZ k n4).bind fun v7=>(iteS v7 ((iC k (.node n2 n3 n4 n5 n6)).bind fun v8=>(some v8)) (some false))) (iteS (decide (n2=77)) ((lZ k n4).bind fun v9=>(iteS v9 ((iC k (.node n2 n3 n4 n5 n6)).bind fun v10=>(some v10)) (some false))) (dX k (.node n2 n3 n4 n5 n6)))))))
def dX:Nat→Tr→Option (Bool)
 | 0,_=>none
 | k11+1,c0_0=>(match c0_0 with | .nil=>none | .node n12 n13 n14 n15 n16=>((eL k11 n14).bind fun v17=>(iteS (!v17) (some false) (iteS (decide (n12=70)) ((qS k11 (.node n12 n13 n14 n15 n16)).bind fun v18=>(iteS v18 (some true) ((qM k11 (.node n12 n13 n14 n15 n16)).bind fun v19=>(some v19)))) (iteS (decide (n12=71)) ((mN k11 (.node n12 n13 n14 n15 n16)).bind fun v20=>(some v20)) (iteS (decide (n12=72)) ((rI k11 (.node n12 n13 n14 n15 n16)).bind fun v21=>(some v21)) (iteS (decide (n12=73)) ((tG k11 (.node n12 n13 n14 n15 n16)).bind fun v22=>(some v22)) (some false))))))))
def xQ:Nat→Tr→Int→Option (Bool)
 | 0,_,_=>none
 | k+1,p0,p1=>(match p0 with | .nil=>none | .node _n1 _n2 _n3 _n4 n5=>((kA n5 p1 ((n5.length:Nat):Int)).bind fun v6=>(qL k v6 0)))
def qL:Nat→(List Tr)→Int→Option (Bool)
 | 0,_,_=>none
 | k7+1,w0_0,w0_1=>(iteS (decide (w0_1<((w0_0.length:Nat):Int))) ((aZ w0_0 w0_1).bind fun v8=>((pC k7 v8).bind fun v9=>(iteS (!v9) (some false) (qL k7 w0_0 (IntKind.i64.wrap (w0_1+1)))))) (some true))
def pG:Nat→Tr→Option (Bool)
 | 0,_=>none
 | k+1,p0=>(match p0 with | .nil=>none | .node n1 n2 n3 n4 n5=>(iteS (decide (n1=40)) ((bK k (.node n1 n2 n3 n4 n5) false false false).bind fun v6=>(iteS v6 ((xQ k (.node n1 n2 n3 n4 n5) 0).bind fun v7=>(some v7)) (some false))) (iteS (decide (n1=41)) ((bK k (.node n1 n2 n3 n4 n5) true false false).bind fun v8=>(iteS v8 ((lZ k n3).bind fun v9=>(iteS v9 ((iC k (.node n1 n2 n3 n4 n5)).bind fun v10=>(some v10)) (some false))) (some false))) (iteS (decide (n1=42)) ((bK k (.node n1 n2 n3 n4 n5) true false false).bind fun v11=>(iteS v11 ((eL k n3).bind fun v12=>(iteS v12 ((tG k (.node n1 n2 n3 n4 n5)).bind fun v13=>(some v13)) (some false))) (some false))) (iteS (decide (n1=43)) ((bK k (.node n1 n2 n3 n4 n5) false false true).bind fun v14=>(iteS v14 (iteS (decide (n2=0)) ((tP k (.node n1 n2 n3 n4 n5)).bind fun v15=>(some v15)) (iteS (decide (n2=1)) ((tP k (.node n1 n2 n3 n4 n5)).bind fun v16=>(some v16)) (some false))) (some false))) (some false))))))
end
def zL (k:Nat) (p0:Tr):Option (Bool):=(match p0 with | .nil=>none | .node _n1 _n2 _n3 _n4 n5=>(iteS (!decide (((n5.length:Nat):Int)=2)) (some false) ((aZ n5 0).bind fun v6=>((lN k v6).bind fun v7=>(iteS (!v7) (some false) ((aZ n5 1).bind fun v8=>((pG k v8).bind fun v9=>(iteS (!v9) (some false) (some true)))))))))
def aBy (k:Nat) (p0:Tr):Option (Bool):=(match p0 with | .nil=>none | .node n1 n2 n3 n4 n5=>(iteS (decide (n1=74)) ((bK k (.node n1 n2 n3 n4 n5) true false false).bind fun v6=>(iteS v6 ((eL k n3).bind fun v7=>(iteS v7 ((oQ k (.node n1 n2 n3 n4 n5)).bind fun v8=>(some v8)) (some false))) (some false))) (iteS (decide (n1=75)) ((bK k (.node n1 n2 n3 n4 n5) true true false).bind fun v9=>(iteS v9 ((eL k n3).bind fun v10=>(iteS v10 ((eL k n4).bind fun v11=>(iteS v11 ((zL k (.node n1 n2 n3 n4 n5)).bind fun v12=>(some v12)) (some false))) (some false))) (some false))) ((pC k (.node n1 n2 n3 n4 n5)).bind fun v13=>(some v13)))))
def qF:Nat→(List Tr)→Int→Option (Bool)
 | 0,_,_=>none
 | k7+1,w0_0,w0_1=>(iteS (decide (w0_1<((w0_0.length:Nat):Int))) ((aZ w0_0 w0_1).bind fun v8=>((aBy k7 v8).bind fun v9=>(iteS (!v9) (some false) (qF k7 w0_0 (IntKind.i64.wrap (w0_1+1)))))) (some true))
def aB2 (k:Nat) (p0:Tr) (p1:Int):Option (Bool):=(match p0 with | .nil=>none | .node _n1 _n2 _n3 _n4 n5=>((kA n5 p1 ((n5.length:Nat):Int)).bind fun v6=>(qF k v6 0)))
def xN (k:Nat) (p0:Tr):Option (Bool):=(match p0 with | .nil=>none | .node n1 n2 n3 n4 n5=>(iteS (decide (n1=80)) ((bK k (.node n1 n2 n3 n4 n5) false false false).bind fun v6=>(iteS v6 ((aB2 k (.node n1 n2 n3 n4 n5) 0).bind fun v7=>(some v7)) (some false))) (some false)))
def aKb (k:Nat) (p0:Tr):Option (Int):=((wO k p0).bind fun (_v1,v2)=>(iteS (!decide (v2=0)) (some v2) ((mD k p0).bind fun v3=>(iteS (decide (60<v3)) (some 7) ((xN k p0).bind fun v4=>(iteS (!v4) (some 16) (some 0)))))))
def aED (k:Nat) (p0:Tr):Option (Int):=((aKb k p0).bind fun v1=>(some v1))
def aHa (k:Nat) (p0:Tr):Option (Int):=((wO k p0).bind fun (_v1,v2)=>(iteS (!decide (v2=0)) (some v2) ((mD k p0).bind fun v3=>(iteS (decide (60<v3)) (some 7) ((fB k p0).bind fun v4=>(iteS (!v4) (some 16) (some 0)))))))
def aIo (k:Nat) (p0:Tr):Option (Int):=((aHa k p0).bind fun v1=>(some v1))
def aAN (_k:Nat) (p0:Bool) (p1:(List UInt8)):Option ((List UInt8)):=(iteS p0 ((catS ([40,32]:List UInt8) p1).bind fun v1=>((catS v1 ([32,41]:List UInt8)).bind fun v2=>(some v2))) (some p1))
def strings_Join (_:Nat) (p0:List (List UInt8)) (p1:List UInt8):Option (List UInt8):=if (Lib.join p0 p1).length≤140737488355328∧p0.length≤140737488355328 then some (Lib.join p0 p1) else none
mutual
def eZ:Nat→Tr→Int→Option ((List UInt8))
 | 0,_,_=>none
 | k+1,p0,p1=>(match p0 with | .nil=>none | .node n1 n2 n3 n4 n5=>(iteS (decide (n1=5)) ((aZ n5 0).bind fun v6=>((aZ n5 1).bind fun v7=>((eZ k v6 1).bind fun v8=>((catS v8 ([32,45,62,32]:List UInt8)).bind fun v9=>((eZ k v7 0).bind fun v10=>((catS v9 v10).bind fun v11=>((aAN k (decide (0<p1)) v11).bind fun v12=>(some v12)))))))) (iteS (decide (n1=6)) ((aZ n5 0).bind fun v13=>((aZ n5 1).bind fun v14=>((eZ k v13 2).bind fun v15=>((catS v15 ([32,42,32]:List UInt8)).bind fun v16=>((eZ k v14 1).bind fun v17=>((catS v16 v17).bind fun v18=>((aAN k (decide (1<p1)) v18).bind fun v19=>(some v19)))))))) (iteS (decide (n1=1)) (some ([105,110,116]:List UInt8)) (iteS (decide (n1=2)) (some ([98,111,111,108]:List UInt8)) (iteS (decide (n1=3)) (some ([117,110,105,116]:List UInt8)) (iteS (decide (n1=7)) (mZ k (.node n1 n2 n3 n4 n5) ([]:List (List UInt8)) n5 0) (some n3))))))))
def mZ:Nat→Tr→(List (List UInt8))→(List Tr)→Int→Option ((List UInt8))
 | 0,_,_,_,_=>none
 | k20+1,w0_0,w0_1,w0_2,w0_3=>(iteS (decide (w0_3<((w0_2.length:Nat):Int))) ((aZ w0_2 w0_3).bind fun v21=>(match v21 with | .nil=>none | .node _n22 _n23 n24 _n25 n26=>((catS n24 ([32,111,102,32]:List UInt8)).bind fun v27=>((aZ n26 0).bind fun v28=>((eZ k20 v28 0).bind fun v29=>((catS v27 v29).bind fun v30=>((aCb 16 w0_1 ([v30]:List (List UInt8))).bind fun v31=>(mZ k20 w0_0 v31 w0_2 (IntKind.i64.wrap (w0_3+1)))))))))) (match w0_0 with | .nil=>none | .node _n32 _n33 n34 _n35 _n36=>((catS ([109,117,32]:List UInt8) n34).bind fun v37=>((catS v37 ([32,123,32]:List UInt8)).bind fun v38=>((strings_Join k20 w0_1 ([32,124,32]:List UInt8)).bind fun v39=>((catS v38 v39).bind fun v40=>((catS v40 ([32,125]:List UInt8)).bind fun v41=>(some v41))))))))
end
def aAQ (k:Nat) (p0:Tr):Option ((List UInt8)×Int):=((aIo k p0).bind fun v1=>(iteS (!decide (v1=0)) (some (([]:List UInt8),v1)) ((eZ k p0 0).bind fun v2=>(some (v2,0)))))
def jP (k:Nat) (p0:Tr):Option ((List UInt8)):=((aAQ k p0).bind fun (v1,_v2)=>(some v1))
def aG2 (k:Nat) (p0:Tr):Option (Int):=((wO k p0).bind fun (_v1,v2)=>(iteS (!decide (v2=0)) (some v2) ((mD k p0).bind fun v3=>(iteS (decide (60<v3)) (some 7) ((fW k p0).bind fun v4=>(iteS (!v4) (some 16) (some 0)))))))
def aH1 (k:Nat) (p0:Tr):Option (Int):=((aG2 k p0).bind fun v1=>(some v1))
def nB (_k:Nat) (p0:Bool) (p1:(List UInt8)):Option ((List UInt8)):=(iteS p0 ((catS ([40,32]:List UInt8) p1).bind fun v1=>((catS v1 ([32,41]:List UInt8)).bind fun v2=>(some v2))) (some p1))
def mP (k:Nat) (p0:Tr):Option ((List UInt8)):=((aAQ k p0).bind fun (v1,_v2)=>(some v1))
mutual
def nS:Nat→(List Tr)→Option ((List UInt8))
 | 0,_=>none
 | k+1,p0=>(fX k ([]:List (List UInt8)) p0 0)
def fX:Nat→(List (List UInt8))→(List Tr)→Int→Option ((List UInt8))
 | 0,_,_,_=>none
 | k1+1,w0_0,w0_1,w0_2=>(iteS (decide (w0_2<((w0_1.length:Nat):Int))) ((aZ w0_1 w0_2).bind fun v2=>(match v2 with | .nil=>none | .node _n3 _n4 n5 n6 n7=>((catS n5 ([32]:List UInt8)).bind fun v8=>((catS v8 n6).bind fun v9=>((catS v9 ([32,61,62,32]:List UInt8)).bind fun v10=>((aZ n7 0).bind fun v11=>((cG k1 v11 0).bind fun v12=>((catS v10 v12).bind fun v13=>((aCb 16 w0_0 ([v13]:List (List UInt8))).bind fun v14=>(fX k1 v14 w0_1 (IntKind.i64.wrap (w0_2+1)))))))))))) ((strings_Join k1 w0_0 ([32,124,32]:List UInt8)).bind fun v15=>((catS v15 ([32,101,110,100]:List UInt8)).bind fun v16=>(some v16))))
def zY:Nat→Tr→Int→Option ((List UInt8))
 | 0,_,_=>none
 | k+1,p0,p1=>(match p0 with | .nil=>none | .node n1 n2 n3 n4 n5=>(iteS (decide (n2=1)) (gJ k (.node n1 n2 n3 n4 n5) p1 2 2 ([32,43,32]:List UInt8)) (iteS (decide (n2=2)) (gJ k (.node n1 n2 n3 n4 n5) p1 2 2 ([32,45,32]:List UInt8)) (iteS (decide (n2=3)) (gJ k (.node n1 n2 n3 n4 n5) p1 3 3 ([32,42,32]:List UInt8)) (iteS (decide (n2=4)) (gJ k (.node n1 n2 n3 n4 n5) p1 1 2 ([32,61,32]:List UInt8)) (gJ k (.node n1 n2 n3 n4 n5) p1 1 2 ([32,60,32]:List UInt8)))))))
def gJ:Nat→Tr→Int→Int→Int→(List UInt8)→Option ((List UInt8))
 | 0,_,_,_,_,_=>none
 | k6+1,c0_0,c0_1,c0_2,c0_3,c0_4=>(match c0_0 with | .nil=>none | .node _n7 _n8 _n9 _n10 n11=>((aZ n11 0).bind fun v12=>((aZ n11 1).bind fun v13=>((cG k6 v12 c0_3).bind fun v14=>((catS v14 c0_4).bind fun v15=>((cG k6 v13 (IntKind.i64.wrap (c0_2+1))).bind fun v16=>((catS v15 v16).bind fun v17=>((nB k6 (decide (c0_2<c0_1)) v17).bind fun v18=>(some v18)))))))))
def dK:Nat→Int→Int→Tr→Option ((List UInt8))
 | 0,_,_,_=>none
 | k+1,p0,p1,p2=>(match p2 with | .nil=>none | .node _n1 _n2 _n3 _n4 n5=>((aZ n5 p0).bind fun v6=>((cG k v6 p1).bind fun v7=>(some v7))))
def cG:Nat→Tr→Int→Option ((List UInt8))
 | 0,_,_=>none
 | k+1,p0,p1=>(match p0 with | .nil=>none | .node n1 n2 n3 n4 n5=>(iteS (decide (n1=20)) ((uE k n2).bind fun v6=>(some v6)) (iteS (decide (n1=21)) (iteS (decide (n2=1)) (some ([116,114,117,101]:List UInt8)) (some ([102,97,108,115,101]:List UInt8))) (iteS (decide (n1=22)) (some ([40,32,41]:List UInt8)) (iteS (decide (n1=23)) (some n3) (iteS (decide (n1=26)) ((dK k 0 0 (.node n1 n2 n3 n4 n5)).bind fun v7=>((catS ([40,32]:List UInt8) v7).bind fun v8=>((catS v8 ([32,44,32]:List UInt8)).bind fun v9=>((dK k 1 0 (.node n1 n2 n3 n4 n5)).bind fun v10=>((catS v9 v10).bind fun v11=>((catS v11 ([32,41]:List UInt8)).bind fun v12=>(some v12))))))) (iteS (decide (n1=27)) ((dK k 0 5 (.node n1 n2 n3 n4 n5)).bind fun v13=>((catS ([35,49,32]:List UInt8) v13).bind fun v14=>(some v14))) (iteS (decide (n1=28)) ((dK k 0 5 (.node n1 n2 n3 n4 n5)).bind fun v15=>((catS ([35,50,32]:List UInt8) v15).bind fun v16=>(some v16))) (iteS (decide (n1=25)) ((dK k 0 4 (.node n1 n2 n3 n4 n5)).bind fun v17=>((catS v17 ([32]:List UInt8)).bind fun v18=>((dK k 1 5 (.node n1 n2 n3 n4 n5)).bind fun v19=>((catS v18 v19).bind fun v20=>((nB k (decide (4<p1)) v20).bind fun v21=>(some v21)))))) (iteS (decide (n1=31)) ((zY k (.node n1 n2 n3 n4 n5) p1).bind fun v22=>(some v22)) (iteS (decide (n1=24)) ((catS ([102,110,32,40,32]:List UInt8) n3).bind fun v23=>((catS v23 ([32,58,32]:List UInt8)).bind fun v24=>((aZ n5 0).bind fun v25=>((mP k v25).bind fun v26=>((catS v24 v26).bind fun v27=>((catS v27 ([32,41,32,61,62,32]:List UInt8)).bind fun v28=>((dK k 1 0 (.node n1 n2 n3 n4 n5)).bind fun v29=>((catS v28 v29).bind fun v30=>((nB k (decide (0<p1)) v30).bind fun v31=>(some v31)))))))))) (iteS (decide (n1=29)) ((catS ([108,101,116,32]:List UInt8) n3).bind fun v32=>((catS v32 ([32,61,32]:List UInt8)).bind fun v33=>((dK k 0 0 (.node n1 n2 n3 n4 n5)).bind fun v34=>((catS v33 v34).bind fun v35=>((catS v35 ([32,105,110,32]:List UInt8)).bind fun v36=>((dK k 1 0 (.node n1 n2 n3 n4 n5)).bind fun v37=>((catS v36 v37).bind fun v38=>((catS v38 ([32,101,110,100]:List UInt8)).bind fun v39=>((nB k (decide (0<p1)) v39).bind fun v40=>(some v40)))))))))) (iteS (decide (n1=30)) ((dK k 0 0 (.node n1 n2 n3 n4 n5)).bind fun v41=>((catS ([105,102,32]:List UInt8) v41).bind fun v42=>((catS v42 ([32,116,104,101,110,32]:List UInt8)).bind fun v43=>((dK k 1 0 (.node n1 n2 n3 n4 n5)).bind fun v44=>((catS v43 v44).bind fun v45=>((catS v45 ([32,101,108,115,101,32]:List UInt8)).bind fun v46=>((dK k 2 0 (.node n1 n2 n3 n4 n5)).bind fun v47=>((catS v46 v47).bind fun v48=>((nB k (decide (0<p1)) v48).bind fun v49=>(some v49)))))))))) (iteS (decide (n1=32)) ((kA n5 1 ((n5.length:Nat):Int)).bind fun v50=>((dK k 0 0 (.node n1 n2 n3 n4 n5)).bind fun v51=>((catS ([99,97,115,101,32]:List UInt8) v51).bind fun v52=>((catS v52 ([32,111,102,32]:List UInt8)).bind fun v53=>((nS k v50).bind fun v54=>((catS v53 v54).bind fun v55=>((nB k (decide (0<p1)) v55).bind fun v56=>(some v56)))))))) ((aZ n5 1).bind fun v57=>((kA n5 2 ((n5.length:Nat):Int)).bind fun v58=>((dK k 0 0 (.node n1 n2 n3 n4 n5)).bind fun v59=>((catS ([102,111,108,100,32]:List UInt8) v59).bind fun v60=>((catS v60 ([32,116,111,32]:List UInt8)).bind fun v61=>((mP k v57).bind fun v62=>((catS v61 v62).bind fun v63=>((catS v63 ([32,111,102,32]:List UInt8)).bind fun v64=>((nS k v58).bind fun v65=>((catS v64 v65).bind fun v66=>((nB k (decide (0<p1)) v66).bind fun v67=>(some v67))))))))))))))))))))))))))
end
def aGp (k:Nat) (p0:Tr):Option ((List UInt8)×Int):=((aH1 k p0).bind fun v1=>(iteS (!decide (v1=0)) (some (([]:List UInt8),v1)) ((cG k p0 0).bind fun v2=>(some (v2,0)))))
def tZ (k:Nat) (p0:Tr):Option ((List UInt8)):=((aGp k p0).bind fun (v1,_v2)=>(some v1))
def kT:Nat→(List (List UInt8))→(List (List UInt8))→Int→Option ((List UInt8))
 | 0,_,_,_=>none
 | k1+1,w0_0,w0_1,w0_2=>(iteS (decide (w0_2<((w0_1.length:Nat):Int))) ((aZ w0_1 w0_2).bind fun v2=>(iteS (!decide (v2=([]:List UInt8))) ((aCb 16 w0_0 ([v2]:List (List UInt8))).bind fun v3=>(kT k1 v3 w0_1 (IntKind.i64.wrap (w0_2+1)))) (kT k1 w0_0 w0_1 (IntKind.i64.wrap (w0_2+1))))) ((strings_Join k1 w0_0 ([32]:List UInt8)).bind fun v4=>(some v4)))
def bW (k:Nat) (p0:(List (List UInt8))):Option ((List UInt8)):=(kT k ([]:List (List UInt8)) p0 0)
def oW:Nat→(List (List UInt8))→(List Tr)→Int→Option ((List UInt8))
 | 0,_,_,_=>none
 | k1+1,w0_0,w0_1,w0_2=>(iteS (decide (w0_2<((w0_1.length:Nat):Int))) ((aZ w0_1 w0_2).bind fun v2=>(match v2 with | .nil=>none | .node _n3 _n4 n5 _n6 n7=>((aZ n7 0).bind fun v8=>((jP k1 v8).bind fun v9=>((bW k1 ([n5,([111,102]:List UInt8),v9]:List (List UInt8))).bind fun v10=>((aCb 16 w0_0 ([v10]:List (List UInt8))).bind fun v11=>(oW k1 v11 w0_1 (IntKind.i64.wrap (w0_2+1))))))))) ((strings_Join k1 w0_0 ([32,124,32]:List UInt8)).bind fun v12=>(some v12)))
def aCm (k:Nat) (p0:(List Tr)):Option ((List UInt8)):=(oW k ([]:List (List UInt8)) p0 0)
mutual
def eO:Nat→Tr→Option ((List UInt8))
 | 0,_=>none
 | k+1,p0=>(match p0 with | .nil=>none | .node n1 _n2 n3 n4 n5=>(iteS (decide (n1=60)) ((aZ n5 0).bind fun v6=>((jP k v6).bind fun v7=>((bW k ([([118,97,108]:List UInt8),n3,([58]:List UInt8),v7]:List (List UInt8))).bind fun v8=>(some v8)))) (iteS (decide (n1=61)) (iteS (decide (((n5.length:Nat):Int)=0)) ((bW k ([([116,121,112,101]:List UInt8),n3]:List (List UInt8))).bind fun v9=>(some v9)) ((aZ n5 0).bind fun v10=>((jP k v10).bind fun v11=>((bW k ([([116,121,112,101]:List UInt8),n3,([61]:List UInt8),v11]:List (List UInt8))).bind fun v12=>(some v12))))) (iteS (decide (n1=62)) ((aCm k n5).bind fun v13=>((bW k ([([100,97,116,97,116,121,112,101]:List UInt8),n3,([61]:List UInt8),v13]:List (List UInt8))).bind fun v14=>(some v14))) (iteS (decide (n1=63)) ((aZ n5 0).bind fun v15=>((fU k v15).bind fun v16=>((bW k ([([115,116,114,117,99,116,117,114,101]:List UInt8),n3,([58]:List UInt8),v16]:List (List UInt8))).bind fun v17=>(some v17)))) (iteS (decide (n1=64)) ((aZ n5 0).bind fun v18=>((fU k v18).bind fun v19=>((bW k ([([105,110,99,108,117,100,101]:List UInt8),v19]:List (List UInt8))).bind fun v20=>(some v20)))) ((bW k ([([115,104,97,114,105,110,103,32,116,121,112,101]:List UInt8),n3,([61]:List UInt8),n4]:List (List UInt8))).bind fun v21=>(some v21))))))))
def aCs:Nat→(List Tr)→Option ((List UInt8))
 | 0,_=>none
 | k+1,p0=>(pB k ([]:List (List UInt8)) p0 0)
def pB:Nat→(List (List UInt8))→(List Tr)→Int→Option ((List UInt8))
 | 0,_,_,_=>none
 | k1+1,w0_0,w0_1,w0_2=>(iteS (decide (w0_2<((w0_1.length:Nat):Int))) ((aZ w0_1 w0_2).bind fun v2=>((eO k1 v2).bind fun v3=>((aCb 16 w0_0 ([v3]:List (List UInt8))).bind fun v4=>(pB k1 v4 w0_1 (IntKind.i64.wrap (w0_2+1)))))) ((bW k1 w0_0).bind fun v5=>(some v5)))
def fU:Nat→Tr→Option ((List UInt8))
 | 0,_=>none
 | k+1,p0=>(match p0 with | .nil=>none | .node n1 _n2 n3 _n4 n5=>(iteS (decide (n1=51)) (some n3) (iteS (decide (n1=52)) ((aZ n5 0).bind fun v6=>((aZ n5 1).bind fun v7=>((fU k v6).bind fun v8=>((jP k v7).bind fun v9=>((bW k ([v8,([119,104,101,114,101,32,116,121,112,101]:List UInt8),n3,([61]:List UInt8),v9]:List (List UInt8))).bind fun v10=>(some v10)))))) ((aCs k n5).bind fun v11=>((bW k ([([115,105,103]:List UInt8),v11,([101,110,100]:List UInt8)]:List (List UInt8))).bind fun v12=>(some v12))))))
end
mutual
def xT:Nat→(List Tr)→Option ((List UInt8))
 | 0,_=>none
 | k+1,p0=>(lL k ([]:List (List UInt8)) p0 0)
def lL:Nat→(List (List UInt8))→(List Tr)→Int→Option ((List UInt8))
 | 0,_,_,_=>none
 | k1+1,w0_0,w0_1,w0_2=>(iteS (decide (w0_2<((w0_1.length:Nat):Int))) ((aZ w0_1 w0_2).bind fun v2=>((cE k1 v2).bind fun v3=>((aCb 16 w0_0 ([v3]:List (List UInt8))).bind fun v4=>(lL k1 v4 w0_1 (IntKind.i64.wrap (w0_2+1)))))) ((bW k1 w0_0).bind fun v5=>(some v5)))
def iL:Nat→Tr→Option ((List UInt8))
 | 0,_=>none
 | k+1,p0=>(match p0 with | .nil=>none | .node n1 n2 n3 n4 n5=>(iteS (decide (n1=41)) (some n3) (iteS (decide (n1=42)) ((aZ n5 0).bind fun v6=>((iL k v6).bind fun v7=>((bW k ([n3,([40]:List UInt8),v7,([41]:List UInt8)]:List (List UInt8))).bind fun v8=>(some v8)))) (iteS (decide (n1=43)) (iteS (decide (n2=1)) (tN k (.node n1 n2 n3 n4 n5) ([58,62]:List UInt8)) (tN k (.node n1 n2 n3 n4 n5) ([58]:List UInt8))) ((xT k n5).bind fun v20=>((bW k ([([115,116,114,117,99,116]:List UInt8),v20,([101,110,100]:List UInt8)]:List (List UInt8))).bind fun v21=>(some v21)))))))
def tN:Nat→Tr→(List UInt8)→Option ((List UInt8))
 | 0,_,_=>none
 | k9+1,c0_0,c0_1=>(match c0_0 with | .nil=>none | .node _n10 _n11 _n12 _n13 n14=>((aZ n14 0).bind fun v15=>((aZ n14 1).bind fun v16=>((iL k9 v15).bind fun v17=>((fU k9 v16).bind fun v18=>((bW k9 ([v17,c0_1,v18]:List (List UInt8))).bind fun v19=>(some v19)))))))
def cE:Nat→Tr→Option ((List UInt8))
 | 0,_=>none
 | k+1,p0=>(match p0 with | .nil=>none | .node n1 _n2 n3 n4 n5=>(iteS (decide (n1=70)) (iteS (decide (((n5.length:Nat):Int)=2)) ((aZ n5 0).bind fun v6=>((aZ n5 1).bind fun v7=>((jP k v6).bind fun v8=>((tZ k v7).bind fun v9=>((bW k ([([118,97,108]:List UInt8),n3,([58]:List UInt8),v8,([61]:List UInt8),v9]:List (List UInt8))).bind fun v10=>(some v10)))))) ((aZ n5 0).bind fun v11=>((tZ k v11).bind fun v12=>((bW k ([([118,97,108]:List UInt8),n3,([61]:List UInt8),v12]:List (List UInt8))).bind fun v13=>(some v13))))) (iteS (decide (n1=71)) ((aZ n5 0).bind fun v14=>((jP k v14).bind fun v15=>((bW k ([([116,121,112,101]:List UInt8),n3,([61]:List UInt8),v15]:List (List UInt8))).bind fun v16=>(some v16)))) (iteS (decide (n1=72)) ((aCm k n5).bind fun v17=>((bW k ([([100,97,116,97,116,121,112,101]:List UInt8),n3,([61]:List UInt8),v17]:List (List UInt8))).bind fun v18=>(some v18))) (iteS (decide (n1=73)) ((aZ n5 0).bind fun v19=>((iL k v19).bind fun v20=>((bW k ([([115,116,114,117,99,116,117,114,101]:List UInt8),n3,([61]:List UInt8),v20]:List (List UInt8))).bind fun v21=>(some v21)))) (iteS (decide (n1=74)) ((aZ n5 0).bind fun v22=>((fU k v22).bind fun v23=>((bW k ([([115,105,103,110,97,116,117,114,101]:List UInt8),n3,([61]:List UInt8),v23]:List (List UInt8))).bind fun v24=>(some v24)))) (iteS (decide (n1=75)) ((aZ n5 0).bind fun v25=>((aZ n5 1).bind fun v26=>((fU k v25).bind fun v27=>((iL k v26).bind fun v28=>((bW k ([([102,117,110,99,116,111,114]:List UInt8),n3,([40]:List UInt8),n4,([58]:List UInt8),v27,([41]:List UInt8),([61]:List UInt8),v28]:List (List UInt8))).bind fun v29=>(some v29)))))) (iteS (decide (n1=76)) ((bW k ([([111,112,101,110]:List UInt8),n3]:List (List UInt8))).bind fun v30=>(some v30)) ((bW k ([([105,110,99,108,117,100,101]:List UInt8),n3]:List (List UInt8))).bind fun v31=>(some v31))))))))))
end
def oY:Nat→List Tr→List UInt8→Int→Option (List UInt8)
 | 0,_,_,_=>none
 | k+1,ks,acc,i=>iteS (decide (i<((ks.length:Nat):Int))) ((aZ ks i).bind fun v=>(cE k v).bind fun s=>if acc.length+(s.length+1)≤140737488355328 then oY k ks (acc++(s++[10])) (IntKind.i64.wrap (i+1)) else none) (some acc)
def aCn (k:Nat) (p0:Tr):Option ((List UInt8)×Int):=(aED k p0).bind fun e=>if e=0 then (match p0 with | .nil=>none | .node _ _ _ _ ks=>(oY k ks [] 0).bind fun s=>if 16384<s.length then some ([],3) else some (s,0)) else some ([],e)
def aAW (k:Nat) (p0:(List UInt8)):Option ((List UInt8)×Int×Int):=((kK k p0).bind fun (v1,v2,v3)=>(iteS (!decide (v3=0)) (some (([]:List UInt8),v2,v3)) ((aCn k v1).bind fun (v4,v5)=>(some (v4,0,v5)))))
def vZ (k:Nat):Option (Bool):=((aAW k ([118,97,108,32,120,61,40,49,41]:List UInt8)).bind fun (v1,v2,v3)=>(iteS (decide (v1=([118,97,108,32,120,32,61,32,49,10]:List UInt8))) (iteS (decide (v2=0)) (some (decide (v3=0))) (some false)) (some false)))
mutual
def sL:Nat→(List Tr)→(List Tr)→Option (Bool)
 | 0,_,_=>none
 | k+1,p0,p1=>(iteS (!decide (((p0.length:Nat):Int)=((p1.length:Nat):Int))) (some false) (hG k p1 p0 0))
def hG:Nat→(List Tr)→(List Tr)→Int→Option (Bool)
 | 0,_,_,_=>none
 | k1+1,w0_0,w0_1,w0_2=>(iteS (decide (w0_2<((w0_1.length:Nat):Int))) ((aZ w0_1 w0_2).bind fun v2=>((aZ w0_0 w0_2).bind fun v3=>((tX k1 v2 v3).bind fun v4=>(iteS (!v4) (some false) (hG k1 w0_0 w0_1 (IntKind.i64.wrap (w0_2+1))))))) (some true))
def tX:Nat→Tr→Tr→Option (Bool)
 | 0,_,_=>none
 | k+1,p0,p1=>(match p0 with | .nil=>(match p1 with | .nil=>(some true) | .node _n6 _n7 _n8 _n9 _n10=>(some false)) | .node n1 n2 n3 n4 n5=>(match p1 with | .nil=>(some false) | .node n11 n12 n13 n14 n15=>(iteS (decide (n1=n11)) (iteS (decide (n2=n12)) (iteS (decide (n3=n13)) (iteS (decide (n4=n14)) ((sL k n5 n15).bind fun v16=>(some v16)) (some false)) (some false)) (some false)) (some false))))
end
def lI:Nat→Tr→Int→(List UInt8)→(List UInt8)→Int→Option (Bool)
 | 0,_,_,_,_,_=>none
 | k13+1,c0_0,c0_1,c0_2,c0_3,c0_4=>((kK k13 c0_2).bind fun (v14,_v15,v16)=>(iteS (decide (c0_1=0)) (iteS (decide (c0_4=0)) (iteS (decide (c0_2=c0_3)) (iteS (decide (v16=0)) ((tX k13 c0_0 v14).bind fun v17=>(iteS v17 ((vZ k13).bind fun v18=>(some v18)) (some false))) (some false)) (some false)) (some false)) (some false)))
def rY (k:Nat) (p0:(List UInt8)):Option (Bool):=((kA p0 0 (if 2000<((p0.length:Nat):Int) then 2000 else ((p0.length:Nat):Int))).bind fun v1=>((kK k v1).bind fun (v2,_v3,v4)=>((aAW k v1).bind fun (v5,_v6,v7)=>(iteS (!decide (v7=0)) (iteS (decide (v5=([]:List UInt8))) (iteS (decide (v7=v4)) ((vZ k).bind fun v8=>(some v8)) (iteS (decide (v7=3)) ((vZ k).bind fun v9=>(some v9)) (some false))) (some false)) ((aAW k v5).bind fun (v10,_v11,v12)=>(lI k v2 v4 v5 v10 v12))))))
end Go.Proofs.YtjhfgiieicloeaaGreatDoor

