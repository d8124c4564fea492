/- What the Go functions come to, as Lean functions with fuel: definitions, and the number of cells of each struct. Printed by gen.py of this session. -/
import Derived.Test.YthkaeeadihplcaaAm12
namespace Go.Proofs.Ythkaeeadihplcaa
open Go Go.Am
structure S_Cell where
  fKind : Int
  fN : Int
  fName : List UInt8
  fMark : List UInt8
  fKids : List Int
def S_Cell.cs (x : S_Cell) : List AV := [(.i x.fKind), (.i x.fN), (.s x.fName), (.s x.fMark), (.slc (x.fKids.map AV.i) x.fKids.length false)]
theorem S_Cell.len (x : S_Cell) : (S_Cell.cs x).length = 5 := rfl
mutual
def arena_Copy : Nat → Tr → Option Tr
  | 0, _ => none
  | k0 + 1, p0 => (match p0 with | .nil => (some (.nil)) | .node n1 n2 n3 n4 n5 => (arena_Copy_l0 k0 n1 n2 n3 n4 n5 0 (([] : List Tr))))
def arena_Copy_l0 : Nat → Int → Int → (List UInt8) → (List UInt8) → (List Tr) → Int → (List Tr) → Option Tr
  | 0, _, _, _, _, _, _, _ => none
  | k13 + 1, n1, n2, n3, n4, n5, w0_2, w0_3 => (if (decide (w0_2 < (((n5.length : Nat) : Int)))) = true then ((getI n5 w0_2).bind fun v15 => ((arena_Copy k13 v15).bind fun v18 => ((appL 8 w0_3 (([v18] : List Tr))).bind fun v22 => (arena_Copy_l0 k13 n1 n2 n3 n4 n5 ((IntKind.i64.wrap (w0_2 + 1))) v22)))) else (some ((.node n1 n2 n3 n4 w0_3))))
end
def arena_Copy_opt_l0 : Nat → Int → Int → (List UInt8) → (List UInt8) → (List Tr) → Int → (List Tr) → Option ((Option (Int × Int × List UInt8 × List UInt8 × List Tr)))
  | 0, _, _, _, _, _, _, _ => none
  | k13 + 1, n1, n2, n3, n4, n5, w0_2, w0_3 => (if (decide (w0_2 < (((n5.length : Nat) : Int)))) = true then ((getI n5 w0_2).bind fun v15 => ((arena_Copy k13 v15).bind fun v18 => ((appL 8 w0_3 (([v18] : List Tr))).bind fun v22 => (arena_Copy_opt_l0 k13 n1 n2 n3 n4 n5 ((IntKind.i64.wrap (w0_2 + 1))) v22)))) else (some (some (n1, n2, n3, n4, w0_3))))
def arena_Copy_opt (K : Nat) (p0 : Tr) : Option ((Option (Int × Int × List UInt8 × List UInt8 × List Tr))) := (match p0 with | .nil => (some none) | .node n1 n2 n3 n4 n5 => (arena_Copy_opt_l0 K n1 n2 n3 n4 n5 0 (([] : List Tr))))
mutual
def arena_Deep : Nat → Tr → Option Int
  | 0, _ => none
  | k0 + 1, p0 => (match p0 with | .nil => (some 0) | .node n1 n2 n3 n4 n5 => (arena_Deep_l0 k0 n5 0 0))
def arena_Deep_l0 : Nat → (List Tr) → Int → Int → Option Int
  | 0, _, _, _ => none
  | k9 + 1, n5, w0_1, w0_2 => (if (decide (w0_2 < (((n5.length : Nat) : Int)))) = true then ((getI n5 w0_2).bind fun v11 => ((arena_Deep k9 v11).bind fun v12 => (arena_Deep_l0 k9 n5 ((if w0_1 < v12 then v12 else w0_1)) ((IntKind.i64.wrap (w0_2 + 1)))))) else (some ((IntKind.i64.wrap (w0_1 + 1)))))
end
mutual
def arena_Same : Nat → Tr → Tr → Option Bool
  | 0, _, _ => none
  | k0 + 1, p0, p1 => (match p0 with | .nil => (match p1 with | .nil => (some true) | .node n1 n2 n3 n4 n5 => (some false)) | .node n6 n7 n8 n9 n10 => (match p1 with | .nil => (some false) | .node n11 n12 n13 n14 n15 => (if (decide (n6 = n11)) = true then (if (decide (n7 = n12)) = true then (if (decide (n8 = n13)) = true then (if (decide (n9 = n14)) = true then ((slices_EqualFunc k0 n10 n15).bind fun v22 => (some v22)) else (some false)) else (some false)) else (some false)) else (some false))))
def slices_EqualFunc : Nat → (List Tr) → (List Tr) → Option Bool
  | 0, _, _ => none
  | k0 + 1, p0, p1 => (if (!decide ((((p0.length : Nat) : Int)) = (((p1.length : Nat) : Int)))) = true then (some false) else (slices_EqualFunc_l0 k0 p0 p1 0))
def slices_EqualFunc_l0 : Nat → (List Tr) → (List Tr) → Int → Option Bool
  | 0, _, _, _ => none
  | k4 + 1, p0, p1, w0_1 => (if (decide (w0_1 < (((p0.length : Nat) : Int)))) = true then ((getI p0 w0_1).bind fun v6 => ((getI p1 w0_1).bind fun v7 => ((arena_Same k4 v6 v7).bind fun v8 => (if (!v8) = true then (some false) else (slices_EqualFunc_l0 k4 p0 p1 ((IntKind.i64.wrap (w0_1 + 1)))))))) else (some true))
end
mutual
def arena_Size : Nat → Tr → Option Int
  | 0, _ => none
  | k0 + 1, p0 => (match p0 with | .nil => (some 0) | .node n1 n2 n3 n4 n5 => (arena_Size_l0 k0 n5 1 0))
def arena_Size_l0 : Nat → (List Tr) → Int → Int → Option Int
  | 0, _, _, _ => none
  | k9 + 1, n5, w0_1, w0_2 => (if (decide (w0_2 < (((n5.length : Nat) : Int)))) = true then ((getI n5 w0_2).bind fun v11 => ((arena_Size k9 v11).bind fun v12 => (arena_Size_l0 k9 n5 ((IntKind.i64.wrap (w0_1 + v12))) ((IntKind.i64.wrap (w0_2 + 1)))))) else (some w0_1))
end
def law04_few_l0 : Nat → (List S_Cell) → Int → (List S_Cell) → Option ((List S_Cell))
  | 0, _, _, _ => none
  | k9 + 1, p0, w0_2, w0_3 => (if (decide (w0_2 < (((p0.length : Nat) : Int)))) = true then (if (decide (w0_2 < 60)) = true then ((getI p0 w0_2).bind fun v12 => ((subL v12.fName 0 ((if 20 < (((v12.fName.length : Nat) : Int)) then 20 else (((v12.fName.length : Nat) : Int))))).bind fun v14 => ((subL v12.fMark 0 ((if 20 < (((v12.fMark.length : Nat) : Int)) then 20 else (((v12.fMark.length : Nat) : Int))))).bind fun v15 => ((subL v12.fKids 0 ((if 12 < (((v12.fKids.length : Nat) : Int)) then 12 else (((v12.fKids.length : Nat) : Int))))).bind fun v16 => ((appL 8 (([] : List Int)) v16).bind fun v17 => ((appL 72 w0_3 (([(⟨v12.fKind, v12.fN, v14, v15, v17⟩ : S_Cell)] : List S_Cell))).bind fun v18 => (law04_few_l0 k9 p0 ((IntKind.i64.wrap (w0_2 + 1))) v18))))))) else (some w0_3)) else (some w0_3))
def law04_few (K : Nat) (p0 : List S_Cell) : Option ((List S_Cell)) := (law04_few_l0 K p0 0 (([] : List S_Cell)))
mutual
def arena_Pack_1 : Nat → Tr → (List S_Cell) → Option (Int × (List S_Cell))
  | 0, _, _ => none
  | k0 + 1, p0, p1 => (match p0 with | .nil => none | .node n3 n4 n5 n6 n7 => (arena_Pack_1_l0 k0 n3 n4 n5 n6 n7 0 (([] : List Int)) p1))
def arena_Pack_1_l0 : Nat → Int → Int → (List UInt8) → (List UInt8) → (List Tr) → Int → (List Int) → (List S_Cell) → Option (Int × (List S_Cell))
  | 0, _, _, _, _, _, _, _, _ => none
  | k18 + 1, n3, n4, n5, n6, n7, w0_3, w0_4, w0_5 => (if (decide (w0_3 < (((n7.length : Nat) : Int)))) = true then ((getI n7 w0_3).bind fun v20 => ((arena_Pack_1 k18 v20 w0_5).bind fun (v25, v26) => ((appL 8 w0_4 (([v25] : List Int))).bind fun v31 => (arena_Pack_1_l0 k18 n3 n4 n5 n6 n7 ((IntKind.i64.wrap (w0_3 + 1))) v31 v26)))) else ((appL 72 w0_5 (([(⟨n3, n4, n5, n6, w0_4⟩ : S_Cell)] : List S_Cell))).bind fun v83 => (some ((IntKind.i64.wrap ((((v83.length : Nat) : Int)) - 1)), v83))))
end
mutual
def arena_whole : Nat → Tr → Option Bool
  | 0, _ => none
  | k0 + 1, p0 => (match p0 with | .nil => (some false) | .node n1 n2 n3 n4 n5 => ((slices_ContainsFunc k0 n5).bind fun v6 => (some ((!v6)))))
def arena_whole_1 : Nat → Tr → Option Bool
  | 0, _ => none
  | k0 + 1, p0 => ((arena_whole k0 p0).bind fun v1 => (some ((!v1))))
def slices_ContainsFunc : Nat → (List Tr) → Option Bool
  | 0, _ => none
  | k0 + 1, p0 => ((slices_IndexFunc k0 p0).bind fun v1 => (some ((decide (0 ≤ v1)))))
def slices_IndexFunc : Nat → (List Tr) → Option Int
  | 0, _ => none
  | k0 + 1, p0 => (slices_IndexFunc_l0 k0 p0 0)
def slices_IndexFunc_l0 : Nat → (List Tr) → Int → Option Int
  | 0, _, _ => none
  | k3 + 1, p0, w0_1 => (if (decide (w0_1 < (((p0.length : Nat) : Int)))) = true then ((getI p0 w0_1).bind fun v5 => ((arena_whole_1 k3 v5).bind fun v6 => (if v6 = true then (some w0_1) else (slices_IndexFunc_l0 k3 p0 ((IntKind.i64.wrap (w0_1 + 1))))))) else (some ((-1))))
end
def arena_Pack (K : Nat) (p0 : Tr) : Option ((List S_Cell) × Int) := ((arena_whole K p0).bind fun v2 => (if (!v2) = true then (some (([] : List S_Cell), 1)) else ((arena_Size K p0).bind fun v5 => (if (decide (8192 < v5)) = true then (some (([] : List S_Cell), 3)) else ((arena_Pack_1 K p0 (([] : List S_Cell))).bind fun (v60, v61) => (some (v61, 0)))))))
def ref04_SamePath_l0 : Nat → (List Int) → (List Int) → Int → Option Bool
  | 0, _, _, _ => none
  | k4 + 1, p0, p1, w0_1 => (if (decide (w0_1 < (((p0.length : Nat) : Int)))) = true then ((getI p0 w0_1).bind fun v6 => ((getI p1 w0_1).bind fun v7 => (if (!decide (v6 = v7)) = true then (some false) else (ref04_SamePath_l0 k4 p0 p1 ((IntKind.i64.wrap (w0_1 + 1))))))) else (some true))
def ref04_SamePath (K : Nat) (p0 : List Int) (p1 : List Int) : Option Bool := (if (!decide ((((p0.length : Nat) : Int)) = (((p1.length : Nat) : Int)))) = true then (some false) else (ref04_SamePath_l0 K p0 p1 0))
def law04_works (K : Nat) : Option Bool := ((arena_Pack K ((.node 6 0 (([] : List UInt8)) (([] : List UInt8)) (([(.node 1 0 (([] : List UInt8)) (([] : List UInt8)) (([] : List Tr))), (.node 2 0 (([] : List UInt8)) (([] : List UInt8)) (([] : List Tr)))] : List Tr))))).bind fun (v1, v2) => (if (decide (v2 = 0)) = true then (if (decide ((((v1.length : Nat) : Int)) = 3)) = true then ((getI v1 1).bind fun v7 => (if (decide (v7.fKind = 2)) = true then ((getI v1 2).bind fun v9 => ((ref04_SamePath K v9.fKids (([0, 1] : List Int))).bind fun v10 => (if v10 = true then ((arena_Size K ((.node 6 0 (([] : List UInt8)) (([] : List UInt8)) (([(.node 1 0 (([] : List UInt8)) (([] : List UInt8)) (([] : List Tr))), (.node 2 0 (([] : List UInt8)) (([] : List UInt8)) (([] : List Tr)))] : List Tr))))).bind fun v13 => (if (decide (v13 = 3)) = true then ((arena_Same K ((.node 6 0 (([] : List UInt8)) (([] : List UInt8)) (([(.node 1 0 (([] : List UInt8)) (([] : List UInt8)) (([] : List Tr))), (.node 2 0 (([] : List UInt8)) (([] : List UInt8)) (([] : List Tr)))] : List Tr)))) ((.node 6 0 (([] : List UInt8)) (([] : List UInt8)) (([(.node 1 0 (([] : List UInt8)) (([] : List UInt8)) (([] : List Tr))), (.node 2 0 (([] : List UInt8)) (([] : List UInt8)) (([] : List Tr)))] : List Tr))))).bind fun v16 => (some v16)) else (some false))) else (some false)))) else (some false))) else (some false)) else (some false)))
mutual
def ref04_Deep : Nat → Tr → Option Int
  | 0, _ => none
  | k0 + 1, p0 => (match p0 with | .nil => (some 0) | .node n1 n2 n3 n4 n5 => (ref04_Deep_l0 k0 n1 n2 n3 n4 n5 0 0))
def ref04_Deep_l0 : Nat → Int → Int → (List UInt8) → (List UInt8) → (List Tr) → Int → Int → Option Int
  | 0, _, _, _, _, _, _, _ => none
  | k9 + 1, n1, n2, n3, n4, n5, w0_1, w0_2 => (if (decide (w0_2 < (((n5.length : Nat) : Int)))) = true then ((getI n5 w0_2).bind fun v11 => ((ref04_Deep k9 v11).bind fun v12 => (if (decide (w0_1 < v12)) = true then (ref04_Deep_l0 k9 n1 n2 n3 n4 n5 v12 ((IntKind.i64.wrap (w0_2 + 1)))) else (ref04_Deep_l0 k9 n1 n2 n3 n4 n5 w0_1 ((IntKind.i64.wrap (w0_2 + 1))))))) else (some ((IntKind.i64.wrap (1 + w0_1)))))
end
mutual
def ref04_grow : Nat → (List S_Cell) → Int → Option Tr
  | 0, _, _ => none
  | k0 + 1, p0, p1 => ((getI p0 p1).bind fun v1 => (ref04_grow_l0 k0 p0 v1 0 (([] : List Tr))))
def ref04_grow_l0 : Nat → (List S_Cell) → S_Cell → Int → (List Tr) → Option Tr
  | 0, _, _, _, _ => none
  | k10 + 1, p0, v1, w0_2, w0_3 => (if (decide (w0_2 < (((v1.fKids.length : Nat) : Int)))) = true then ((getI v1.fKids w0_2).bind fun v12 => ((ref04_grow k10 p0 v12).bind fun v15 => ((appL 8 w0_3 (([v15] : List Tr))).bind fun v19 => (ref04_grow_l0 k10 p0 v1 ((IntKind.i64.wrap (w0_2 + 1))) v19)))) else (some ((.node v1.fKind v1.fN v1.fName v1.fMark w0_3))))
end
def ref04_Open_l2 : Nat → (List S_Cell) → (List Int) → Int → Option (Tr × Int)
  | 0, _, _, _ => none
  | k25 + 1, p0, w0_2, w2_1 => (if (decide (w2_1 < ((IntKind.i64.wrap ((((p0.length : Nat) : Int)) - 1))))) = true then ((getI w0_2 w2_1).bind fun v27 => (if (!decide (v27 = 1)) = true then (some (.nil, 16)) else (ref04_Open_l2 k25 p0 w0_2 ((IntKind.i64.wrap (w2_1 + 1)))))) else ((ref04_grow k25 p0 ((IntKind.i64.wrap ((((p0.length : Nat) : Int)) - 1)))).bind fun v29 => (some (v29, 0))))
mutual
def ref04_Open_l0 : Nat → (List S_Cell) → Int → (List Int) → Option (Tr × Int)
  | 0, _, _, _ => none
  | k8 + 1, p0, w0_1, w0_2 => (if (decide (w0_1 < (((p0.length : Nat) : Int)))) = true then (ref04_Open_l1 k8 p0 w0_1 0 w0_2) else (ref04_Open_l2 k8 p0 w0_2 0))
def ref04_Open_l1 : Nat → (List S_Cell) → Int → Int → (List Int) → Option (Tr × Int)
  | 0, _, _, _, _ => none
  | k13 + 1, p0, w0_1, w1_1, w1_2 => ((getI p0 w0_1).bind fun v14 => (if (decide (w1_1 < (((v14.fKids.length : Nat) : Int)))) = true then ((getI p0 w0_1).bind fun v16 => ((getI v16.fKids w1_1).bind fun v17 => (if (decide (v17 < 0)) = true then (some (.nil, 16)) else (if (decide (w0_1 ≤ v17)) = true then (some (.nil, 16)) else ((getI w1_2 v17).bind fun v20 => ((getI w1_2 v17).bind fun v21 => (ref04_Open_l1 k13 p0 w0_1 ((IntKind.i64.wrap (w1_1 + 1))) ((w1_2.set v17.toNat ((IntKind.i64.wrap (v20 + 1)))))))))))) else (ref04_Open_l0 k13 p0 ((IntKind.i64.wrap (w0_1 + 1))) w1_2)))
end
def ref04_Open (K : Nat) (p0 : List S_Cell) : Option (Tr × Int) := (if (decide ((((p0.length : Nat) : Int)) = 0)) = true then (some (.nil, 1)) else (if (decide (8192 < (((p0.length : Nat) : Int)))) = true then (some (.nil, 3)) else ((mkL 8 (0 : Int) (((p0.length : Nat) : Int))).bind fun v3 => (ref04_Open_l0 K p0 0 v3))))
mutual
def ref04_Same : Nat → Tr → Tr → Option Bool
  | 0, _, _ => none
  | k0 + 1, p0, p1 => (match p0 with | .nil => (match p1 with | .nil => (some true) | .node n1 n2 n3 n4 n5 => (some false)) | .node n6 n7 n8 n9 n10 => (match p1 with | .nil => (some false) | .node n11 n12 n13 n14 n15 => (if (!decide (n6 = n11)) = true then (some false) else (if (!decide (n7 = n12)) = true then (some false) else (if (!decide (n8 = n13)) = true then (some false) else (if (!decide (n9 = n14)) = true then (some false) else (if (!decide ((((n10.length : Nat) : Int)) = (((n15.length : Nat) : Int)))) = true then (some false) else (ref04_Same_l0 k0 n6 n7 n8 n9 n10 n11 n12 n13 n14 n15 0))))))))
def ref04_Same_l0 : Nat → Int → Int → (List UInt8) → (List UInt8) → (List Tr) → Int → Int → (List UInt8) → (List UInt8) → (List Tr) → Int → Option Bool
  | 0, _, _, _, _, _, _, _, _, _, _, _ => none
  | k23 + 1, n6, n7, n8, n9, n10, n11, n12, n13, n14, n15, w0_1 => (if (decide (w0_1 < (((n10.length : Nat) : Int)))) = true then ((getI n10 w0_1).bind fun v25 => ((getI n15 w0_1).bind fun v26 => ((ref04_Same k23 v25 v26).bind fun v29 => (if (!v29) = true then (some false) else (ref04_Same_l0 k23 n6 n7 n8 n9 n10 n11 n12 n13 n14 n15 ((IntKind.i64.wrap (w0_1 + 1)))))))) else (some true))
end
mutual
def ref04_Size : Nat → Tr → Option Int
  | 0, _ => none
  | k0 + 1, p0 => (match p0 with | .nil => (some 0) | .node n1 n2 n3 n4 n5 => (ref04_Size_l0 k0 n1 n2 n3 n4 n5 1 0))
def ref04_Size_l0 : Nat → Int → Int → (List UInt8) → (List UInt8) → (List Tr) → Int → Int → Option Int
  | 0, _, _, _, _, _, _, _ => none
  | k9 + 1, n1, n2, n3, n4, n5, w0_1, w0_2 => (if (decide (w0_2 < (((n5.length : Nat) : Int)))) = true then ((getI n5 w0_2).bind fun v11 => ((ref04_Size k9 v11).bind fun v12 => (ref04_Size_l0 k9 n1 n2 n3 n4 n5 ((IntKind.i64.wrap (w0_1 + v12))) ((IntKind.i64.wrap (w0_2 + 1)))))) else (some w0_1))
end
def law04_ArenaTells (K : Nat) (p0 : List S_Cell) (p1 : List S_Cell) : Option Bool := ((law04_few K p0).bind fun v1 => ((ref04_Open K v1).bind fun (v3, v4) => ((law04_few K p1).bind fun v6 => ((ref04_Open K v6).bind fun (v8, v9) => ((arena_Same K v3 v8).bind fun v11 => ((ref04_Same K v3 v8).bind fun v13 => (if (!(v11 == v13)) = true then (some false) else ((arena_Size K v3).bind fun v16 => ((ref04_Size K v3).bind fun v18 => (if (!decide (v16 = v18)) = true then (some false) else ((arena_Deep K v3).bind fun v21 => ((ref04_Deep K v3).bind fun v23 => (if (!decide (v21 = v23)) = true then (some false) else ((arena_Copy_opt K v3).bind fun v26 => (match v26 with | none => ((ref04_Same K (.nil) v3).bind fun v34 => (if (!v34) = true then (some false) else (if (decide (v4 = 0)) = true then ((law04_works K).bind fun v38 => (some v38)) else ((law04_works K).bind fun v40 => (some v40))))) | some (n29, n30, n31, n32, n33) => ((ref04_Same K ((.node n29 n30 n31 n32 n33)) v3).bind fun v42 => (if (!v42) = true then (some false) else (if (decide (v4 = 0)) = true then ((catS n31 (([120] : List UInt8))).bind fun v46 => ((ref04_Same K ((.node n29 n30 v46 n32 n33)) v3).bind fun v47 => (if v47 = true then (some false) else ((arena_Same K ((.node n29 n30 v46 n32 n33)) v3).bind fun v50 => (if v50 = true then (some false) else ((law04_works K).bind fun v53 => (some v53))))))) else ((law04_works K).bind fun v55 => (some v55))))))))))))))))))))
def slices_Index_l0 : Nat → (List Bool) → Bool → Int → Option Int
  | 0, _, _, _ => none
  | k3 + 1, p0, p1, w0_1 => (if (decide (w0_1 < (((p0.length : Nat) : Int)))) = true then ((getI p0 w0_1).bind fun v5 => (if (p1 == v5) = true then (some w0_1) else (slices_Index_l0 k3 p0 p1 ((IntKind.i64.wrap (w0_1 + 1)))))) else (some ((-1))))
def slices_Index (K : Nat) (p0 : List Bool) (p1 : Bool) : Option Int := (slices_Index_l0 K p0 p1 0)
def slices_Contains (K : Nat) (p0 : List Bool) (p1 : Bool) : Option Bool := ((slices_Index K p0 p1).bind fun v1 => (some ((decide (0 ≤ v1)))))
mutual
def arena_Open_l0 : Nat → (List S_Cell) → Int → (List Bool) → (List Tr) → Option (Tr × Int)
  | 0, _, _, _, _ => none
  | k11 + 1, p0, w0_1, w0_2, w0_3 => (if (decide (w0_1 < (((p0.length : Nat) : Int)))) = true then ((getI p0 w0_1).bind fun v13 => (arena_Open_l1 k11 p0 w0_1 w0_3 v13 0 (([] : List Tr)) w0_2)) else ((subL w0_2 0 ((IntKind.i64.wrap ((((p0.length : Nat) : Int)) - 1)))).bind fun v139 => ((slices_Contains k11 v139 false).bind fun v140 => (if v140 = true then (some (.nil, 16)) else ((getI w0_3 ((IntKind.i64.wrap ((((p0.length : Nat) : Int)) - 1)))).bind fun v143 => (some (v143, 0)))))))
def arena_Open_l1 : Nat → (List S_Cell) → Int → (List Tr) → S_Cell → Int → (List Tr) → (List Bool) → Option (Tr × Int)
  | 0, _, _, _, _, _, _, _ => none
  | k23 + 1, p0, w0_1, w0_3, v13, w1_2, w1_3, w1_4 => (if (decide (w1_2 < (((v13.fKids.length : Nat) : Int)))) = true then ((getI v13.fKids w1_2).bind fun v25 => (if (decide (v25 < 0)) = true then (some (.nil, 16)) else (if (decide (w0_1 ≤ v25)) = true then (some (.nil, 16)) else ((getI w1_4 v25).bind fun v28 => (if v28 = true then (some (.nil, 16)) else ((getI w1_4 v25).bind fun v30 => ((getI w0_3 v25).bind fun v32 => ((appL 8 w1_3 (([v32] : List Tr))).bind fun v35 => (arena_Open_l1 k23 p0 w0_1 w0_3 v13 ((IntKind.i64.wrap (w1_2 + 1))) v35 ((w1_4.set v25.toNat true))))))))))) else ((getI w0_3 w0_1).bind fun v87 => (arena_Open_l0 k23 p0 ((IntKind.i64.wrap (w0_1 + 1))) w1_4 ((w0_3.set w0_1.toNat ((.node v13.fKind v13.fN v13.fName v13.fMark w1_3)))))))
end
def arena_Open (K : Nat) (p0 : List S_Cell) : Option (Tr × Int) := (if (decide ((((p0.length : Nat) : Int)) = 0)) = true then (some (.nil, 1)) else (if (decide (8192 < (((p0.length : Nat) : Int)))) = true then (some (.nil, 3)) else ((mkL 8 (.nil : Tr) (((p0.length : Nat) : Int))).bind fun v3 => ((mkL 1 (false : Bool) (((p0.length : Nat) : Int))).bind fun v5 => (arena_Open_l0 K p0 0 v5 v3)))))
mutual
def ref04_cells : Nat → Tr → Int → Option ((List S_Cell))
  | 0, _, _ => none
  | k0 + 1, p0, p1 => (match p0 with | .nil => none | .node n3 n4 n5 n6 n7 => (ref04_cells_l0 k0 p1 n3 n4 n5 n6 n7 0 (([] : List Int)) (([] : List S_Cell))))
def ref04_cells_l0 : Nat → Int → Int → Int → (List UInt8) → (List UInt8) → (List Tr) → Int → (List Int) → (List S_Cell) → Option ((List S_Cell))
  | 0, _, _, _, _, _, _, _, _, _ => none
  | k20 + 1, p1, n3, n4, n5, n6, n7, w0_3, w0_4, w0_5 => (if (decide (w0_3 < (((n7.length : Nat) : Int)))) = true then ((getI n7 w0_3).bind fun v22 => ((ref04_cells k20 v22 ((IntKind.i64.wrap (p1 + (((w0_5.length : Nat) : Int)))))).bind fun v23 => ((appL 72 w0_5 v23).bind fun v25 => ((appL 8 w0_4 (([(IntKind.i64.wrap (((IntKind.i64.wrap (p1 + (((v25.length : Nat) : Int))))) - 1))] : List Int))).bind fun v27 => (ref04_cells_l0 k20 p1 n3 n4 n5 n6 n7 ((IntKind.i64.wrap (w0_3 + 1))) v27 v25))))) else ((appL 72 w0_5 (([(⟨n3, n4, n5, n6, w0_4⟩ : S_Cell)] : List S_Cell))).bind fun v79 => (some v79)))
end
mutual
def ref04_hole : Nat → Tr → Option Bool
  | 0, _ => none
  | k0 + 1, p0 => (match p0 with | .nil => (some true) | .node n1 n2 n3 n4 n5 => (ref04_hole_l0 k0 n1 n2 n3 n4 n5 0))
def ref04_hole_l0 : Nat → Int → Int → (List UInt8) → (List UInt8) → (List Tr) → Int → Option Bool
  | 0, _, _, _, _, _, _ => none
  | k8 + 1, n1, n2, n3, n4, n5, w0_1 => (if (decide (w0_1 < (((n5.length : Nat) : Int)))) = true then ((getI n5 w0_1).bind fun v10 => ((ref04_hole k8 v10).bind fun v11 => (if v11 = true then (some true) else (ref04_hole_l0 k8 n1 n2 n3 n4 n5 ((IntKind.i64.wrap (w0_1 + 1))))))) else (some false))
end
def ref04_Pack (K : Nat) (p0 : Tr) : Option ((List S_Cell) × Int) := ((ref04_hole K p0).bind fun v2 => (if v2 = true then (some (([] : List S_Cell), 1)) else ((ref04_Size K p0).bind fun v5 => (if (decide (8192 < v5)) = true then (some (([] : List S_Cell), 3)) else ((ref04_cells K p0 0).bind fun v8 => (some (v8, 0)))))))
def ref04_SameCells_l0 : Nat → (List S_Cell) → (List S_Cell) → Int → Option Bool
  | 0, _, _, _ => none
  | k4 + 1, p0, p1, w0_1 => (if (decide (w0_1 < (((p0.length : Nat) : Int)))) = true then ((getI p0 w0_1).bind fun v6 => ((getI p1 w0_1).bind fun v7 => (if (!decide (v6.fKind = v7.fKind)) = true then (some false) else (if (!decide (v6.fN = v7.fN)) = true then (some false) else (if (!decide (v6.fName = v7.fName)) = true then (some false) else (if (!decide (v6.fMark = v7.fMark)) = true then (some false) else ((ref04_SamePath k4 v6.fKids v7.fKids).bind fun v16 => (if (!v16) = true then (some false) else (ref04_SameCells_l0 k4 p0 p1 ((IntKind.i64.wrap (w0_1 + 1)))))))))))) else (some true))
def ref04_SameCells (K : Nat) (p0 : List S_Cell) (p1 : List S_Cell) : Option Bool := (if (!decide ((((p0.length : Nat) : Int)) = (((p1.length : Nat) : Int)))) = true then (some false) else (ref04_SameCells_l0 K p0 p1 0))
def law04_ArenaOpens (K : Nat) (p0 : List S_Cell) : Option Bool := ((law04_few K p0).bind fun v2 => ((arena_Open K v2).bind fun (v4, v5) => ((ref04_Open K v2).bind fun (v7, v8) => ((ref04_Same K v4 v7).bind fun v10 => (if (!v10) = true then (some false) else (if (!decide (v5 = v8)) = true then (some false) else (if (!decide (v8 = 0)) = true then ((law04_works K).bind fun v15 => (some v15)) else ((arena_Pack K v4).bind fun (v17, v18) => ((ref04_Pack K v7).bind fun (v21, v22) => ((ref04_SameCells K v17 v21).bind fun v25 => (if v25 = true then (if (decide (v18 = v22)) = true then ((law04_works K).bind fun v29 => (some v29)) else (some false)) else (some false))))))))))))
def law04_ArenaBack (K : Nat) (p0 : List S_Cell) : Option Bool := ((law04_few K p0).bind fun v2 => ((arena_Open K v2).bind fun (v4, v5) => (if (!decide (v5 = 0)) = true then (match v4 with | .nil => ((law04_works K).bind fun v8 => (some v8)) | .node n10 n11 n12 n13 n14 => (some false)) else ((arena_Pack K v4).bind fun (v15, v16) => ((arena_Open K v15).bind fun (v19, v20) => (if (decide (v16 = 0)) = true then (if (decide (v20 = 0)) = true then (if (decide ((((v15.length : Nat) : Int)) = (((v2.length : Nat) : Int)))) = true then ((arena_Same K v4 v19).bind fun v27 => (if v27 = true then ((arena_Size K v4).bind fun v34 => (if (decide (v34 = (((v2.length : Nat) : Int)))) = true then ((law04_works K).bind fun v39 => (some v39)) else (some false))) else (some false))) else (some false)) else (some false)) else (some false)))))))
def arena_At_l0 : Nat → (List Int) → Tr → Int → Option (Tr × Int)
  | 0, _, _, _ => none
  | k9 + 1, p1, w0_1, w0_2 => (if (decide (w0_2 < (((p1.length : Nat) : Int)))) = true then ((getI p1 w0_2).bind fun v11 => (if (decide (v11 < 0)) = true then (some (.nil, 21)) else (match w0_1 with | .nil => none | .node n13 n14 n15 n16 n17 => (if (decide ((((n17.length : Nat) : Int)) ≤ v11)) = true then (some (.nil, 21)) else ((getI n17 v11).bind fun v19 => (match v19 with | .nil => (some (.nil, 21)) | .node n20 n21 n22 n23 n24 => ((getI n17 v11).bind fun v25 => (arena_At_l0 k9 p1 v25 ((IntKind.i64.wrap (w0_2 + 1))))))))))) else (some (w0_1, 0)))
def arena_At (K : Nat) (p0 : Tr) (p1 : List Int) : Option (Tr × Int) := (match p0 with | .nil => (some (.nil, 1)) | .node n1 n2 n3 n4 n5 => (arena_At_l0 K p1 ((.node n1 n2 n3 n4 n5)) 0))
def slices_Clone (K : Nat) (p0 : List Int) : Option ((List Int)) := ((appL 8 (([] : List Int)) p0).bind fun v51 => (some v51))
mutual
def arena_Paths_1 : Nat → Tr → (List Int) → Int → (List (List Int)) → Option (Int × (List (List Int)))
  | 0, _, _, _, _ => none
  | k0 + 1, p0, p1, p2, p3 => (match p0 with | .nil => (some (p2, p3)) | .node n1 n2 n3 n4 n5 => (if (decide (p2 < 0)) = true then ((slices_Clone k0 p1).bind fun v9 => ((appL 24 p3 (([v9] : List (List Int)))).bind fun v13 => (arena_Paths_1_l0 k0 p1 n5 0 v13 p2))) else (if (decide (n1 = p2)) = true then ((slices_Clone k0 p1).bind fun v35 => ((appL 24 p3 (([v35] : List (List Int)))).bind fun v39 => (arena_Paths_1_l1 k0 p1 n5 0 v39 p2))) else (arena_Paths_1_l2 k0 p1 n5 0 p2 p3))))
def arena_Paths_1_l0 : Nat → (List Int) → (List Tr) → Int → (List (List Int)) → Int → Option (Int × (List (List Int)))
  | 0, _, _, _, _, _ => none
  | k20 + 1, p1, n5, w0_2, w0_3, w0_4 => (if (decide (w0_2 < (((n5.length : Nat) : Int)))) = true then ((getI n5 w0_2).bind fun v22 => ((appL 8 p1 (([w0_2] : List Int))).bind fun v23 => ((arena_Paths_1 k20 v22 v23 w0_4 w0_3).bind fun (v28, v29) => (arena_Paths_1_l0 k20 p1 n5 ((IntKind.i64.wrap (w0_2 + 1))) v29 v28)))) else (some (w0_4, w0_3)))
def arena_Paths_1_l1 : Nat → (List Int) → (List Tr) → Int → (List (List Int)) → Int → Option (Int × (List (List Int)))
  | 0, _, _, _, _, _ => none
  | k46 + 1, p1, n5, w1_2, w1_3, w1_4 => (if (decide (w1_2 < (((n5.length : Nat) : Int)))) = true then ((getI n5 w1_2).bind fun v48 => ((appL 8 p1 (([w1_2] : List Int))).bind fun v49 => ((arena_Paths_1 k46 v48 v49 w1_4 w1_3).bind fun (v54, v55) => (arena_Paths_1_l1 k46 p1 n5 ((IntKind.i64.wrap (w1_2 + 1))) v55 v54)))) else (some (w1_4, w1_3)))
def arena_Paths_1_l2 : Nat → (List Int) → (List Tr) → Int → Int → (List (List Int)) → Option (Int × (List (List Int)))
  | 0, _, _, _, _, _ => none
  | k63 + 1, p1, n5, w2_2, w2_3, w2_4 => (if (decide (w2_2 < (((n5.length : Nat) : Int)))) = true then ((getI n5 w2_2).bind fun v65 => ((appL 8 p1 (([w2_2] : List Int))).bind fun v66 => ((arena_Paths_1 k63 v65 v66 w2_3 w2_4).bind fun (v71, v72) => (arena_Paths_1_l2 k63 p1 n5 ((IntKind.i64.wrap (w2_2 + 1))) v71 v72)))) else (some (w2_3, w2_4)))
end
def arena_Paths (K : Nat) (p0 : Tr) (p1 : Int) : Option ((List (List Int))) := ((arena_Paths_1 K p0 (([] : List Int)) p1 (([] : List (List Int)))).bind fun (v54, v55) => (some v55))
def slices_Clone_row (K : Nat) (p0 : List Tr) : Option ((List Tr)) := ((appL 8 (([] : List Tr)) p0).bind fun v53 => (some v53))
def arena_put : Nat → Tr → (List Int) → Tr → Option Tr
  | 0, _, _, _ => none
  | k0 + 1, p0, p1, p2 => (if (decide ((((p1.length : Nat) : Int)) = 0)) = true then (some p2) else (match p0 with | .nil => none | .node n2 n3 n4 n5 n6 => ((slices_Clone_row k0 n6).bind fun v8 => ((getI p1 0).bind fun v11 => ((getI p1 0).bind fun v12 => ((getI n6 v12).bind fun v13 => ((subL p1 1 (((p1.length : Nat) : Int))).bind fun v14 => ((arena_put k0 v13 v14 p2).bind fun v17 => ((getI v8 v11).bind fun v19 => (some ((.node n2 n3 n4 n5 ((v8.set v11.toNat v17))))))))))))))
def arena_Put (K : Nat) (p0 : Tr) (p1 : List Int) (p2 : Tr) : Option (Tr × Int) := ((arena_At K p0 p1).bind fun (v1, v2) => (if (!decide (v2 = 0)) = true then (some (.nil, v2)) else (match p2 with | .nil => (some (.nil, 1)) | .node n5 n6 n7 n8 n9 => ((arena_put K p0 p1 ((.node n5 n6 n7 n8 n9))).bind fun v10 => (some (v10, 0))))))
def ref04_At_l0 : Nat → (List Int) → Tr → Int → Option (Tr × Int)
  | 0, _, _, _ => none
  | k9 + 1, p1, w0_1, w0_2 => (if (decide (w0_2 < (((p1.length : Nat) : Int)))) = true then ((getI p1 w0_2).bind fun v11 => (if (decide (v11 < 0)) = true then (some (.nil, 21)) else ((getI p1 w0_2).bind fun v13 => (match w0_1 with | .nil => none | .node n14 n15 n16 n17 n18 => (if (decide ((((n18.length : Nat) : Int)) ≤ v13)) = true then (some (.nil, 21)) else ((getI p1 w0_2).bind fun v20 => ((getI n18 v20).bind fun v21 => (match v21 with | .nil => (some (.nil, 21)) | .node n22 n23 n24 n25 n26 => ((getI p1 w0_2).bind fun v27 => ((getI n18 v27).bind fun v28 => (ref04_At_l0 k9 p1 v28 ((IntKind.i64.wrap (w0_2 + 1)))))))))))))) else (some (w0_1, 0)))
def ref04_At (K : Nat) (p0 : Tr) (p1 : List Int) : Option (Tr × Int) := (match p0 with | .nil => (some (.nil, 1)) | .node n1 n2 n3 n4 n5 => (ref04_At_l0 K p1 ((.node n1 n2 n3 n4 n5)) 0))
mutual
def ref04_Paths : Nat → Tr → Int → Option ((List (List Int)))
  | 0, _, _ => none
  | k0 + 1, p0, p1 => (match p0 with | .nil => (some (([] : List (List Int)))) | .node n1 n2 n3 n4 n5 => (if (decide (p1 < 0)) = true then ((appL 24 (([] : List (List Int))) (([([] : List Int)] : List (List Int)))).bind fun v57 => (ref04_Paths_l0 k0 p1 n1 n2 n3 n4 n5 0 v57)) else (if (decide (n1 = p1)) = true then ((appL 24 (([] : List (List Int))) (([([] : List Int)] : List (List Int)))).bind fun v129 => (ref04_Paths_l2 k0 p1 n1 n2 n3 n4 n5 0 v129)) else (ref04_Paths_l4 k0 p1 n1 n2 n3 n4 n5 0 (([] : List (List Int)))))))
def ref04_Paths_l0 : Nat → Int → Int → Int → (List UInt8) → (List UInt8) → (List Tr) → Int → (List (List Int)) → Option ((List (List Int)))
  | 0, _, _, _, _, _, _, _, _ => none
  | k63 + 1, p1, n1, n2, n3, n4, n5, w0_2, w0_3 => (if (decide (w0_2 < (((n5.length : Nat) : Int)))) = true then ((getI n5 w0_2).bind fun v65 => ((ref04_Paths k63 v65 p1).bind fun v66 => (ref04_Paths_l1 k63 p1 n1 n2 n3 n4 n5 w0_2 v66 0 w0_3))) else (some w0_3))
def ref04_Paths_l1 : Nat → Int → Int → Int → (List UInt8) → (List UInt8) → (List Tr) → Int → (List (List Int)) → Int → (List (List Int)) → Option ((List (List Int)))
  | 0, _, _, _, _, _, _, _, _, _, _ => none
  | k72 + 1, p1, n1, n2, n3, n4, n5, w0_2, v66, w1_2, w1_3 => (if (decide (w1_2 < (((v66.length : Nat) : Int)))) = true then ((getI v66 w1_2).bind fun v74 => ((appL 8 (([w0_2] : List Int)) v74).bind fun v75 => ((appL 24 w1_3 (([v75] : List (List Int)))).bind fun v76 => (ref04_Paths_l1 k72 p1 n1 n2 n3 n4 n5 w0_2 v66 ((IntKind.i64.wrap (w1_2 + 1))) v76)))) else (ref04_Paths_l0 k72 p1 n1 n2 n3 n4 n5 ((IntKind.i64.wrap (w0_2 + 1))) w1_3))
def ref04_Paths_l2 : Nat → Int → Int → Int → (List UInt8) → (List UInt8) → (List Tr) → Int → (List (List Int)) → Option ((List (List Int)))
  | 0, _, _, _, _, _, _, _, _ => none
  | k135 + 1, p1, n1, n2, n3, n4, n5, w2_2, w2_3 => (if (decide (w2_2 < (((n5.length : Nat) : Int)))) = true then ((getI n5 w2_2).bind fun v137 => ((ref04_Paths k135 v137 p1).bind fun v138 => (ref04_Paths_l3 k135 p1 n1 n2 n3 n4 n5 w2_2 v138 0 w2_3))) else (some w2_3))
def ref04_Paths_l3 : Nat → Int → Int → Int → (List UInt8) → (List UInt8) → (List Tr) → Int → (List (List Int)) → Int → (List (List Int)) → Option ((List (List Int)))
  | 0, _, _, _, _, _, _, _, _, _, _ => none
  | k144 + 1, p1, n1, n2, n3, n4, n5, w2_2, v138, w3_2, w3_3 => (if (decide (w3_2 < (((v138.length : Nat) : Int)))) = true then ((getI v138 w3_2).bind fun v146 => ((appL 8 (([w2_2] : List Int)) v146).bind fun v147 => ((appL 24 w3_3 (([v147] : List (List Int)))).bind fun v148 => (ref04_Paths_l3 k144 p1 n1 n2 n3 n4 n5 w2_2 v138 ((IntKind.i64.wrap (w3_2 + 1))) v148)))) else (ref04_Paths_l2 k144 p1 n1 n2 n3 n4 n5 ((IntKind.i64.wrap (w2_2 + 1))) w3_3))
def ref04_Paths_l4 : Nat → Int → Int → Int → (List UInt8) → (List UInt8) → (List Tr) → Int → (List (List Int)) → Option ((List (List Int)))
  | 0, _, _, _, _, _, _, _, _ => none
  | k156 + 1, p1, n1, n2, n3, n4, n5, w4_2, w4_3 => (if (decide (w4_2 < (((n5.length : Nat) : Int)))) = true then ((getI n5 w4_2).bind fun v158 => ((ref04_Paths k156 v158 p1).bind fun v159 => (ref04_Paths_l5 k156 p1 n1 n2 n3 n4 n5 w4_2 v159 0 w4_3))) else (some w4_3))
def ref04_Paths_l5 : Nat → Int → Int → Int → (List UInt8) → (List UInt8) → (List Tr) → Int → (List (List Int)) → Int → (List (List Int)) → Option ((List (List Int)))
  | 0, _, _, _, _, _, _, _, _, _, _ => none
  | k165 + 1, p1, n1, n2, n3, n4, n5, w4_2, v159, w5_2, w5_3 => (if (decide (w5_2 < (((v159.length : Nat) : Int)))) = true then ((getI v159 w5_2).bind fun v167 => ((appL 8 (([w4_2] : List Int)) v167).bind fun v168 => ((appL 24 w5_3 (([v168] : List (List Int)))).bind fun v169 => (ref04_Paths_l5 k165 p1 n1 n2 n3 n4 n5 w4_2 v159 ((IntKind.i64.wrap (w5_2 + 1))) v169)))) else (ref04_Paths_l4 k165 p1 n1 n2 n3 n4 n5 ((IntKind.i64.wrap (w4_2 + 1))) w5_3))
end
mutual
def ref04_With : Nat → Tr → (List Int) → Tr → Option Tr
  | 0, _, _, _ => none
  | k0 + 1, p0, p1, p2 => (if (decide ((((p1.length : Nat) : Int)) = 0)) = true then (some p2) else (match p0 with | .nil => none | .node n2 n3 n4 n5 n6 => (ref04_With_l0 k0 p1 p2 n2 n3 n4 n5 n6 0 (([] : List Tr)))))
def ref04_With_l0 : Nat → (List Int) → Tr → Int → Int → (List UInt8) → (List UInt8) → (List Tr) → Int → (List Tr) → Option Tr
  | 0, _, _, _, _, _, _, _, _, _ => none
  | k15 + 1, p1, p2, n2, n3, n4, n5, n6, w0_2, w0_3 => (if (decide (w0_2 < (((n6.length : Nat) : Int)))) = true then ((getI n6 w0_2).bind fun v17 => ((getI p1 0).bind fun v18 => (if (decide (w0_2 = v18)) = true then ((subL p1 1 (((p1.length : Nat) : Int))).bind fun v20 => ((ref04_With k15 v17 v20 p2).bind fun v21 => ((appL 8 w0_3 (([v21] : List Tr))).bind fun v23 => (ref04_With_l0 k15 p1 p2 n2 n3 n4 n5 n6 ((IntKind.i64.wrap (w0_2 + 1))) v23)))) else ((appL 8 w0_3 (([v17] : List Tr))).bind fun v25 => (ref04_With_l0 k15 p1 p2 n2 n3 n4 n5 n6 ((IntKind.i64.wrap (w0_2 + 1))) v25))))) else (some ((.node n2 n3 n4 n5 w0_3))))
end
def ref04_Put (K : Nat) (p0 : Tr) (p1 : List Int) (p2 : Tr) : Option (Tr × Int) := ((ref04_At K p0 p1).bind fun (v1, v2) => (if (!decide (v2 = 0)) = true then (some (.nil, v2)) else (match p2 with | .nil => (some (.nil, 1)) | .node n5 n6 n7 n8 n9 => ((ref04_With K p0 p1 ((.node n5 n6 n7 n8 n9))).bind fun v10 => (some (v10, 0))))))
def ref04_SamePaths_l0 : Nat → (List (List Int)) → (List (List Int)) → Int → Option Bool
  | 0, _, _, _ => none
  | k4 + 1, p0, p1, w0_1 => (if (decide (w0_1 < (((p0.length : Nat) : Int)))) = true then ((getI p0 w0_1).bind fun v6 => ((getI p1 w0_1).bind fun v7 => ((ref04_SamePath k4 v6 v7).bind fun v10 => (if (!v10) = true then (some false) else (ref04_SamePaths_l0 k4 p0 p1 ((IntKind.i64.wrap (w0_1 + 1)))))))) else (some true))
def ref04_SamePaths (K : Nat) (p0 : List (List Int)) (p1 : List (List Int)) : Option Bool := (if (!decide ((((p0.length : Nat) : Int)) = (((p1.length : Nat) : Int)))) = true then (some false) else (ref04_SamePaths_l0 K p0 p1 0))
def law04_ArenaPuts (K : Nat) (p0 : List S_Cell) (p1 : List Int) (p2 : List S_Cell) : Option Bool := ((law04_few K p0).bind fun v1 => ((ref04_Open K v1).bind fun (v3, v4) => ((law04_few K p0).bind fun v6 => ((ref04_Open K v6).bind fun (v8, v9) => ((law04_few K p2).bind fun v11 => ((ref04_Open K v11).bind fun (v13, v14) => ((subL p1 0 ((if 30 < (((p1.length : Nat) : Int)) then 30 else (((p1.length : Nat) : Int))))).bind fun v16 => ((arena_At K v3 v16).bind fun (v17, v18) => ((ref04_At K v3 v16).bind fun (v20, v21) => ((arena_Put K v3 v16 v13).bind fun (v23, v24) => ((ref04_Put K v3 v16 v13).bind fun (v26, v27) => (if (decide (0 < (((v16.length : Nat) : Int)))) = true then ((getI v16 0).bind fun v30 => ((ref04_Same K v17 v20).bind fun v31 => (if v31 = true then (if (decide (v18 = v21)) = true then ((ref04_Same K v23 v26).bind fun v35 => (if v35 = true then (if (decide (v24 = v27)) = true then ((ref04_Same K v3 v8).bind fun v39 => (if v39 = true then ((arena_Paths K v3 v30).bind fun v42 => ((ref04_Paths K v3 v30).bind fun v44 => ((ref04_SamePaths K v42 v44).bind fun v46 => (if v46 = true then ((law04_works K).bind fun v49 => (some v49)) else (some false))))) else (some false))) else (some false)) else (some false))) else (some false)) else (some false)))) else ((ref04_Same K v17 v20).bind fun v51 => (if v51 = true then (if (decide (v18 = v21)) = true then ((ref04_Same K v23 v26).bind fun v55 => (if v55 = true then (if (decide (v24 = v27)) = true then ((ref04_Same K v3 v8).bind fun v59 => (if v59 = true then ((arena_Paths K v3 ((-1))).bind fun v62 => ((ref04_Paths K v3 ((-1))).bind fun v64 => ((ref04_SamePaths K v62 v64).bind fun v66 => (if v66 = true then ((law04_works K).bind fun v69 => (some v69)) else (some false))))) else (some false))) else (some false)) else (some false))) else (some false)) else (some false)))))))))))))))
mutual
def law04_ArenaNodes_l0 : Nat → Int → Tr → (List (List Int)) → Int → Option Bool
  | 0, _, _, _, _ => none
  | k16 + 1, p1, v3, v12, w0_1 => (if (decide (w0_1 < (((v12.length : Nat) : Int)))) = true then ((getI v12 w0_1).bind fun v18 => ((arena_At k16 v3 v18).bind fun (v19, v20) => (if (!decide (v20 = 0)) = true then (some false) else (if (decide (0 ≤ p1)) = true then (match v19 with | .nil => none | .node n24 n25 n26 n27 n28 => (if (!decide (n24 = p1)) = true then (some false) else (law04_ArenaNodes_l1 k16 p1 v3 v12 w0_1 v18 n24 n25 n26 n27 n28 0))) else (law04_ArenaNodes_l2 k16 p1 v3 v12 w0_1 v18 0))))) else ((law04_works k16).bind fun v60 => (some v60)))
def law04_ArenaNodes_l1 : Nat → Int → Tr → (List (List Int)) → Int → (List Int) → Int → Int → (List UInt8) → (List UInt8) → (List Tr) → Int → Option Bool
  | 0, _, _, _, _, _, _, _, _, _, _, _ => none
  | k32 + 1, p1, v3, v12, w0_1, v18, n24, n25, n26, n27, n28, w1_1 => (if (decide (w1_1 < w0_1)) = true then ((getI v12 w1_1).bind fun v34 => ((ref04_SamePath k32 v34 v18).bind fun v35 => (if v35 = true then (some false) else ((getI v12 w1_1).bind fun v38 => (if (decide ((((v18.length : Nat) : Int)) < (((v38.length : Nat) : Int)))) = true then ((getI v12 w1_1).bind fun v40 => ((subL v40 0 (((v18.length : Nat) : Int))).bind fun v41 => ((ref04_SamePath k32 v41 v18).bind fun v42 => (if v42 = true then (some false) else (law04_ArenaNodes_l1 k32 p1 v3 v12 w0_1 v18 n24 n25 n26 n27 n28 ((IntKind.i64.wrap (w1_1 + 1)))))))) else (law04_ArenaNodes_l1 k32 p1 v3 v12 w0_1 v18 n24 n25 n26 n27 n28 ((IntKind.i64.wrap (w1_1 + 1))))))))) else (law04_ArenaNodes_l0 k32 p1 v3 v12 ((IntKind.i64.wrap (w0_1 + 1)))))
def law04_ArenaNodes_l2 : Nat → Int → Tr → (List (List Int)) → Int → (List Int) → Int → Option Bool
  | 0, _, _, _, _, _, _ => none
  | k47 + 1, p1, v3, v12, w0_1, v18, w2_1 => (if (decide (w2_1 < w0_1)) = true then ((getI v12 w2_1).bind fun v49 => ((ref04_SamePath k47 v49 v18).bind fun v50 => (if v50 = true then (some false) else ((getI v12 w2_1).bind fun v53 => (if (decide ((((v18.length : Nat) : Int)) < (((v53.length : Nat) : Int)))) = true then ((getI v12 w2_1).bind fun v55 => ((subL v55 0 (((v18.length : Nat) : Int))).bind fun v56 => ((ref04_SamePath k47 v56 v18).bind fun v57 => (if v57 = true then (some false) else (law04_ArenaNodes_l2 k47 p1 v3 v12 w0_1 v18 ((IntKind.i64.wrap (w2_1 + 1)))))))) else (law04_ArenaNodes_l2 k47 p1 v3 v12 w0_1 v18 ((IntKind.i64.wrap (w2_1 + 1))))))))) else (law04_ArenaNodes_l0 k47 p1 v3 v12 ((IntKind.i64.wrap (w0_1 + 1)))))
end
def law04_ArenaNodes (K : Nat) (p0 : List S_Cell) (p1 : Int) : Option Bool := ((law04_few K p0).bind fun v1 => ((arena_Open K v1).bind fun (v3, v4) => (if (!decide (v4 = 0)) = true then ((arena_Paths K v3 p1).bind fun v7 => (if (decide ((((v7.length : Nat) : Int)) = 0)) = true then ((law04_works K).bind fun v10 => (some v10)) else (some false))) else ((arena_Paths K v3 p1).bind fun v12 => (law04_ArenaNodes_l0 K p1 v3 v12 0)))))
def law04_ArenaFinds (K : Nat) (p0 : List S_Cell) (p1 : List S_Cell) (p2 : Int) : Option Bool := ((law04_few K p0).bind fun v1 => ((arena_Open K v1).bind fun (v3, v4) => ((law04_few K p1).bind fun v6 => ((arena_Open K v6).bind fun (v8, v9) => (if (!decide (v4 = 0)) = true then ((law04_works K).bind fun v12 => (some v12)) else (if (!decide (v9 = 0)) = true then ((law04_works K).bind fun v15 => (some v15)) else ((arena_Paths K v3 ((-1))).bind fun v17 => (if (decide ((((v17.length : Nat) : Int)) = 0)) = true then (some false) else ((arena_Size K v3).bind fun v20 => (if (!decide ((((v17.length : Nat) : Int)) = v20)) = true then (some false) else ((remI p2 (((v17.length : Nat) : Int))).bind fun v23 => ((remI ((IntKind.i64.wrap (v23 + (((v17.length : Nat) : Int))))) (((v17.length : Nat) : Int))).bind fun v24 => ((getI v17 v24).bind fun v25 => ((arena_At K v3 v25).bind fun (v26, v27) => ((arena_Put K v3 v25 v8).bind fun (v29, v30) => ((arena_At K v29 v25).bind fun (v32, v33) => ((arena_Put K v29 v25 v26).bind fun (v35, v36) => (if (!decide (v27 = 0)) = true then (some false) else (if (!decide (v30 = 0)) = true then (some false) else (if (!decide (v33 = 0)) = true then (some false) else (if (!decide (v36 = 0)) = true then (some false) else ((arena_Same K v32 v8).bind fun v42 => (if (!v42) = true then (some false) else ((arena_Same K v35 v3).bind fun v45 => (if (!v45) = true then (some false) else ((arena_Size K v29).bind fun v48 => ((arena_Size K v3).bind fun v50 => ((arena_Size K v26).bind fun v52 => ((arena_Size K v8).bind fun v54 => (if (decide (v48 = ((IntKind.i64.wrap (((IntKind.i64.wrap (v50 - v52))) + v54))))) = true then ((law04_works K).bind fun v57 => (some v57)) else (some false)))))))))))))))))))))))))))))))
end Go.Proofs.Ythkaeeadihplcaa
