/- The Lean functions that the machine tells of the program. -/
import Derived.Shelf.Strings.SlTrimAscii
import Derived.Test.YtommgpkeicpokaaDoorAbsOpen
namespace Go.Proofs.YtommgpkeicpokaaDoor.Abs
open Go Go.RowKit
set_option linter.unusedVariables false
set_option linter.unusedSectionVars false
set_option linter.unusedSimpArgs false
noncomputable section
def laws_szStringS.p16 : Nat → List ByteArray → Int → Int → Option (Int)
 | 0, _, _, _ => none
 | k + 1, x0, x1, x5 => (if x5 < (x0.length : Int) then (if 0 ≤ x5 then (if x5 < (x0.length : Int) then (if (wrap64 (x1 - ((rdOf ByteArray.empty x0 x5).size : Int))) < 0 then (some (-1)) else (laws_szStringS.p16 k x0 (wrap64 (x1 - ((rdOf ByteArray.empty x0 x5).size : Int))) (wrap64 (x5 + 1)))) else none) else none) else (some x1))
def laws_szStringS.f (k : Nat) (a0 : List ByteArray) (a1 : Int) : Option (Int) := (if (wrap64 (a1 - (a0.length : Int))) < 0 then (some (-1)) else (laws_szStringS.p16 k a0 (wrap64 (a1 - (a0.length : Int))) 0))
def laws_szInt64S.f (a0 : List Int) (a1 : Int) : Option (Int) := (if (wrap64 (a1 - (a0.length : Int))) < 0 then (some (-1)) else (some (wrap64 (a1 - (a0.length : Int)))))
def laws_szObj.f (a0_0 : Int) (a0_1 : List Int) (a1 : Int) : Option (Int) := ((laws_szInt64S.f a0_1 a1).bind fun t1 => (if t1 < 0 then (some (-1)) else (some t1)))
def laws_szObjS.p16 : Nat → List (Int × List Int) → Int → Int → Option (Int)
 | 0, _, _, _ => none
 | k + 1, x0, x1, x5 => (if x5 < (x0.length : Int) then (if 0 ≤ x5 then (if x5 < (x0.length : Int) then ((laws_szObj.f (rdOf (0, []) x0 x5).1 (rdOf (0, []) x0 x5).2 x1).bind fun t1 => (if t1 < 0 then (some (-1)) else (laws_szObjS.p16 k x0 t1 (wrap64 (x5 + 1))))) else none) else none) else (some x1))
def laws_szObjS.f (k : Nat) (a0 : List (Int × List Int)) (a1 : Int) : Option (Int) := (if (wrap64 (a1 - (a0.length : Int))) < 0 then (some (-1)) else (laws_szObjS.p16 k a0 (wrap64 (a1 - (a0.length : Int))) 0))
def laws_szGraph.f (k : Nat) (a0_0 : List Int) (a0_1 : List (Int × List Int)) (a1 : Int) : Option (Int) := ((laws_szInt64S.f a0_0 a1).bind fun t1 => (if t1 < 0 then (some (-1)) else ((laws_szObjS.f k a0_1 t1).bind fun t2 => (if t2 < 0 then (some (-1)) else (some t2)))))
def laws_toStringS.p8 : Nat → List ByteArray → List ByteArray → Int → Option (List ByteArray)
 | 0, _, _, _ => none
 | k + 1, x0, x3, x4 => (if x4 < (x0.length : Int) then (if 0 ≤ x4 then (if x4 < (x0.length : Int) then (if 0 ≤ x4 then (if x4 < (x3.length : Int) then (laws_toStringS.p8 k x0 (x3.set x4.toNat (rdOf ByteArray.empty x0 x4)) (wrap64 (x4 + 1))) else none) else none) else none) else none) else (some x3))
def laws_toStringS.f (k : Nat) (a0 : List ByteArray) : Option (List ByteArray) := (if 0 ≤ (a0.length : Int) then (if (a0.length : Int).toNat ≤ 17592186044416 then (laws_toStringS.p8 k a0 (List.replicate (a0.length : Int).toNat (⟨#[]⟩ : ByteArray)) 0) else none) else none)
def laws_toInt64S.p8 : Nat → List Int → List Int → Int → Option (List Int)
 | 0, _, _, _ => none
 | k + 1, x0, x3, x4 => (if x4 < (x0.length : Int) then (if 0 ≤ x4 then (if x4 < (x0.length : Int) then (if 0 ≤ x4 then (if x4 < (x3.length : Int) then (laws_toInt64S.p8 k x0 (x3.set x4.toNat (rd x0 x4)) (wrap64 (x4 + 1))) else none) else none) else none) else none) else (some x3))
def laws_toInt64S.f (k : Nat) (a0 : List Int) : Option (List Int) := (if 0 ≤ (a0.length : Int) then (if (a0.length : Int).toNat ≤ 35184372088832 then (laws_toInt64S.p8 k a0 (List.replicate (a0.length : Int).toNat (0 : Int)) 0) else none) else none)
def laws_toObj.f (k : Nat) (a0_0 : Int) (a0_1 : List Int) : Option (Int × List Int) := ((laws_toInt64S.f k a0_1).bind fun t1 => (some (a0_0, t1)))
def laws_toObjS.p8 : Nat → List (Int × List Int) → List (Int × List Int) → Int → Option (List (Int × List Int))
 | 0, _, _, _ => none
 | k + 1, x0, x3, x4 => (if x4 < (x0.length : Int) then (if 0 ≤ x4 then (if x4 < (x0.length : Int) then ((laws_toObj.f k (rdOf (0, []) x0 x4).1 (rdOf (0, []) x0 x4).2).bind fun t1 => (if 0 ≤ x4 then (if x4 < (x3.length : Int) then (laws_toObjS.p8 k x0 (x3.set x4.toNat t1) (wrap64 (x4 + 1))) else none) else none)) else none) else none) else (some x3))
def laws_toObjS.f (k : Nat) (a0 : List (Int × List Int)) : Option (List (Int × List Int)) := (if 0 ≤ (a0.length : Int) then (if (a0.length : Int).toNat ≤ 8796093022208 then (laws_toObjS.p8 k a0 (List.replicate (a0.length : Int).toNat ((0, []) : Int × List Int)) 0) else none) else none)
def laws_toGraph.f (k : Nat) (a0_0 : List Int) (a0_1 : List (Int × List Int)) : Option (List Int × List (Int × List Int)) := ((laws_toInt64S.f k a0_0).bind fun t1 => ((laws_toObjS.f k a0_1).bind fun t2 => (some (t1, t2))))
def spec_l1In.f (a0 : Int) (a1 : Int) (a2 : Int) : Option (Bool) := (if a0 ≥ a1 then (some (decide (a0 ≤ a2))) else (some false))
def spec_l3Type.p6 : Nat → ByteArray → Int → Option (Bool)
 | 0, _, _ => none
 | k + 1, x0, x3 => (if x3 < (x0.size : Int) then (if 0 ≤ x3 then (if x3 < (x0.size : Int) then (if (byteAt x0 x3) = 105 then (spec_l3Type.p6 k x0 (wrap64 (x3 + 1))) else (if 0 ≤ x3 then (if x3 < (x0.size : Int) then (if (byteAt x0 x3) = 114 then (spec_l3Type.p6 k x0 (wrap64 (x3 + 1))) else (some false)) else none) else none)) else none) else none) else ((spec_l1In.f (x0.size : Int) 1 23).bind fun t1 => (some t1)))
def spec_l3Type.f (k : Nat) (a0 : ByteArray) : Option (Bool) := (spec_l3Type.p6 k a0 0)
def spec_TypesOk.p14 : Nat → List ByteArray → Int → Option (Bool)
 | 0, _, _ => none
 | k + 1, x0, x3 => (if x3 < (x0.length : Int) then (if 0 ≤ x3 then (if x3 < (x0.length : Int) then ((spec_l3Type.f k (rdOf ByteArray.empty x0 x3)).bind fun t2 => (if t2 = true then (spec_TypesOk.p14 k x0 (wrap64 (x3 + 1))) else (some false))) else none) else none) else (some true))
def spec_TypesOk.f (k : Nat) (a0 : List ByteArray) : Option (Bool) := ((spec_l1In.f (a0.length : Int) 1 12).bind fun t1 => (if t1 = true then (spec_TypesOk.p14 k a0 0) else (some false)))
mutual
def spec_GraphOk.p16 : Nat → List ByteArray → List Int → List (Int × List Int) → Int → Int → Option (Bool)
 | 0, _, _, _, _, _ => none
 | k + 1, x0, x3_0, x3_1, x5, x6 => (if x6 < (x3_0.length : Int) then (if 0 ≤ x6 then (if x6 < (x3_0.length : Int) then ((spec_l1In.f (rd x3_0 x6) 0 x5).bind fun t2 => (if t2 = true then (spec_GraphOk.p16 k x0 x3_0 x3_1 x5 (wrap64 (x6 + 1))) else (some false))) else none) else none) else (spec_GraphOk.p37 k x0 x3_0 x3_1 x5 0))
def spec_GraphOk.p37 : Nat → List ByteArray → List Int → List (Int × List Int) → Int → Int → Option (Bool)
 | 0, _, _, _, _, _ => none
 | k + 1, x0, x3_0, x3_1, x5, x7 => (if x7 < (x3_1.length : Int) then (if 0 ≤ x7 then (if x7 < (x3_1.length : Int) then ((spec_l1In.f (rdOf (0, []) x3_1 x7).1 0 (wrap64 ((x0.length : Int) - 1))).bind fun t3 => (if t3 = true then (if 0 ≤ (rdOf (0, []) x3_1 x7).1 then (if (rdOf (0, []) x3_1 x7).1 < (x0.length : Int) then (if ((rdOf (0, []) x3_1 x7).2.length : Int) = ((rdOf ByteArray.empty x0 (rdOf (0, []) x3_1 x7).1).size : Int) then (spec_GraphOk.p59 k x0 x3_0 x3_1 x5 x7 (rdOf (0, []) x3_1 x7).1 (rdOf (0, []) x3_1 x7).2 0) else (some false)) else none) else none) else (some false))) else none) else none) else (some true))
def spec_GraphOk.p59 : Nat → List ByteArray → List Int → List (Int × List Int) → Int → Int → Int → List Int → Int → Option (Bool)
 | 0, _, _, _, _, _, _, _, _ => none
 | k + 1, x0, x3_0, x3_1, x5, x7, x8_0, x8_1, x9 => (if x9 < (x8_1.length : Int) then (if 0 ≤ x8_0 then (if x8_0 < (x0.length : Int) then (if 0 ≤ x9 then (if x9 < ((rdOf ByteArray.empty x0 x8_0).size : Int) then (if (byteAt (rdOf ByteArray.empty x0 x8_0) x9) = 114 then (if 0 ≤ x9 then (if x9 < (x8_1.length : Int) then ((spec_l1In.f (rd x8_1 x9) 0 x5).bind fun t4 => (if t4 = true then (spec_GraphOk.p59 k x0 x3_0 x3_1 x5 x7 x8_0 x8_1 (wrap64 (x9 + 1))) else (some false))) else none) else none) else (spec_GraphOk.p59 k x0 x3_0 x3_1 x5 x7 x8_0 x8_1 (wrap64 (x9 + 1)))) else none) else none) else none) else none) else (spec_GraphOk.p37 k x0 x3_0 x3_1 x5 (wrap64 (x7 + 1))))
end
def spec_GraphOk.f (k : Nat) (a0 : List ByteArray) (a1_0 : List Int) (a1_1 : List (Int × List Int)) : Option (Bool) := ((spec_TypesOk.f k a0).bind fun t1 => (if t1 = true then (if (a1_0.length : Int) > 40 then (some false) else (if (a1_1.length : Int) > 400 then (some false) else (spec_GraphOk.p16 k a0 a1_0 a1_1 (a1_1.length : Int) 0))) else (some false)))
mutual
def spec_l7Found.p10 : Nat → List ByteArray → List Int → List (Int × List Int) → List Int → List Bool → Int → Option (List Int)
 | 0, _, _, _, _, _, _ => none
 | k + 1, x0, x3_0, x3_1, x5, x6, x7 => (if x7 < (x3_0.length : Int) then (if 0 ≤ x7 then (if x7 < (x3_0.length : Int) then (if (wrap64 ((rd x3_0 x7) - 1)) ≥ 0 then (if 0 ≤ (wrap64 ((rd x3_0 x7) - 1)) then (if (wrap64 ((rd x3_0 x7) - 1)) < (x6.length : Int) then (spec_l7Found.p23 k x0 x3_0 x3_1 x5 x6 x7 (wrap64 ((rd x3_0 x7) - 1)) (!(rdOf false x6 (wrap64 ((rd x3_0 x7) - 1))))) else none) else none) else (spec_l7Found.p23 k x0 x3_0 x3_1 x5 x6 x7 (wrap64 ((rd x3_0 x7) - 1)) false)) else none) else none) else (spec_l7Found.p33 k x0 x3_0 x3_1 x5 x6 0))
def spec_l7Found.p23 : Nat → List ByteArray → List Int → List (Int × List Int) → List Int → List Bool → Int → Int → Bool → Option (List Int)
 | 0, _, _, _, _, _, _, _, _ => none
 | k + 1, x0, x3_0, x3_1, x5, x6, x7, x8, x39 => (if x39 = true then (if 0 ≤ x8 then (if x8 < (x6.length : Int) then (if x5.length + 1 ≤ 17592186044416 then (spec_l7Found.p10 k x0 x3_0 x3_1 (x5 ++ ([x8] : List Int)) (x6.set x8.toNat true) (wrap64 (x7 + 1))) else none) else none) else none) else (spec_l7Found.p10 k x0 x3_0 x3_1 x5 x6 (wrap64 (x7 + 1))))
def spec_l7Found.p33 : Nat → List ByteArray → List Int → List (Int × List Int) → List Int → List Bool → Int → Option (List Int)
 | 0, _, _, _, _, _, _ => none
 | k + 1, x0, x3_0, x3_1, x5, x6, x9 => (if x9 < (x5.length : Int) then (if 0 ≤ x9 then (if x9 < (x5.length : Int) then (if 0 ≤ (rd x5 x9) then (if (rd x5 x9) < (x3_1.length : Int) then (spec_l7Found.p47 k x0 x3_0 x3_1 x5 x6 x9 (rdOf (0, []) x3_1 (rd x5 x9)).1 (rdOf (0, []) x3_1 (rd x5 x9)).2 0) else none) else none) else none) else none) else (some x5))
def spec_l7Found.p47 : Nat → List ByteArray → List Int → List (Int × List Int) → List Int → List Bool → Int → Int → List Int → Int → Option (List Int)
 | 0, _, _, _, _, _, _, _, _, _ => none
 | k + 1, x0, x3_0, x3_1, x5, x6, x9, x10_0, x10_1, x11 => (if x11 < (x10_1.length : Int) then (if 0 ≤ x10_0 then (if x10_0 < (x0.length : Int) then (if 0 ≤ x11 then (if x11 < ((rdOf ByteArray.empty x0 x10_0).size : Int) then (if (byteAt (rdOf ByteArray.empty x0 x10_0) x11) = 114 then (if 0 ≤ x11 then (if x11 < (x10_1.length : Int) then (if (wrap64 ((rd x10_1 x11) - 1)) ≥ 0 then (if 0 ≤ (wrap64 ((rd x10_1 x11) - 1)) then (if (wrap64 ((rd x10_1 x11) - 1)) < (x6.length : Int) then (spec_l7Found.p66 k x0 x3_0 x3_1 x5 x6 x9 x10_0 x10_1 x11 (wrap64 ((rd x10_1 x11) - 1)) (!(rdOf false x6 (wrap64 ((rd x10_1 x11) - 1))))) else none) else none) else (spec_l7Found.p66 k x0 x3_0 x3_1 x5 x6 x9 x10_0 x10_1 x11 (wrap64 ((rd x10_1 x11) - 1)) false)) else none) else none) else (spec_l7Found.p47 k x0 x3_0 x3_1 x5 x6 x9 x10_0 x10_1 (wrap64 (x11 + 1)))) else none) else none) else none) else none) else (spec_l7Found.p33 k x0 x3_0 x3_1 x5 x6 (wrap64 (x9 + 1))))
def spec_l7Found.p66 : Nat → List ByteArray → List Int → List (Int × List Int) → List Int → List Bool → Int → Int → List Int → Int → Int → Bool → Option (List Int)
 | 0, _, _, _, _, _, _, _, _, _, _, _ => none
 | k + 1, x0, x3_0, x3_1, x5, x6, x9, x10_0, x10_1, x11, x12, x90 => (if x90 = true then (if 0 ≤ x12 then (if x12 < (x6.length : Int) then (if x5.length + 1 ≤ 17592186044416 then (spec_l7Found.p47 k x0 x3_0 x3_1 (x5 ++ ([x12] : List Int)) (x6.set x12.toNat true) x9 x10_0 x10_1 (wrap64 (x11 + 1))) else none) else none) else none) else (spec_l7Found.p47 k x0 x3_0 x3_1 x5 x6 x9 x10_0 x10_1 (wrap64 (x11 + 1))))
end
def spec_l7Found.f (k : Nat) (a0 : List ByteArray) (a1_0 : List Int) (a1_1 : List (Int × List Int)) : Option (List Int) := (if 0 ≤ (a1_1.length : Int) then (if (a1_1.length : Int).toNat ≤ 281474976710656 then (spec_l7Found.p10 k a0 a1_0 a1_1 ([] : List Int) (List.replicate (a1_1.length : Int).toNat false) 0) else none) else none)
def spec_l7Place.p6 : Nat → List Int → Int → Int → Option (Int)
 | 0, _, _, _ => none
 | k + 1, x0, x1, x5 => (if x5 < (x0.length : Int) then (if 0 ≤ x5 then (if x5 < (x0.length : Int) then (if (rd x0 x5) = x1 then (some x5) else (spec_l7Place.p6 k x0 x1 (wrap64 (x5 + 1)))) else none) else none) else (some (-1)))
def spec_l7Place.f (k : Nat) (a0 : List Int) (a1 : Int) : Option (Int) := (spec_l7Place.p6 k a0 a1 0)
def spec_Reached.p18 : Nat → List Int → List (Int × List Int) → List Int → List Int → Int → Option (List Int)
 | 0, _, _, _, _, _ => none
 | k + 1, x3_0, x3_1, x5, x6, x7 => (if x7 < (x3_1.length : Int) then ((spec_l7Place.f k x5 x7).bind fun t3 => (if t3 ≥ 0 then (if x6.length + 1 ≤ 17592186044416 then (spec_Reached.p18 k x3_0 x3_1 x5 (x6 ++ ([x7] : List Int)) (wrap64 (x7 + 1))) else none) else (spec_Reached.p18 k x3_0 x3_1 x5 x6 (wrap64 (x7 + 1))))) else (some x6))
def spec_Reached.f (k : Nat) (a0 : List ByteArray) (a1_0 : List Int) (a1_1 : List (Int × List Int)) : Option (List Int) := ((spec_GraphOk.f k a0 a1_0 a1_1).bind fun t1 => (if t1 = true then ((spec_l7Found.f k a0 a1_0 a1_1).bind fun t2 => (spec_Reached.p18 k a1_0 a1_1 t2 ([] : List Int) 0)) else (some ([] : List Int))))
def impl_size_string.f (a0 : List ByteArray) : Option (Int) := (some (a0.length : Int))
def impl_within.f (a0 : Int) (a1 : Int) (a2 : Int) : Option (Bool) := (if a0 ≥ a1 then (some (decide (a0 ≤ a2))) else (some false))
def strings_Trim.f (a0 a1 : ByteArray) : Option ByteArray :=
  if a0.size ≤ 9223372036854775807 then (if a1.size ≤ 1000 then (if a1.data.toList.all (fun b => decide (b.toNat < 128)) = true then some ⟨(Lib.trimS a0.data.toList a1.data.toList).toArray⟩ else none) else none) else none

def impl_isType.f (a0 : ByteArray) : Option (Bool) := ((impl_within.f (a0.size : Int) 1 23).bind fun t1 => (if t1 = true then ((strings_Trim.f a0 (⟨#[105, 114]⟩ : ByteArray)).bind fun t2 => (some (decide (t2.toList = (⟨#[]⟩ : ByteArray).toList)))) else (some false)))
def impl_TypesOk_1.f (a0 : ByteArray) : Option (Bool) := ((impl_isType.f a0).bind fun t1 => (some (!t1)))
def slices_IndexFunc_string_at_impl_TypesOk_1.p6 : Nat → List ByteArray → Int → Int → Option (Int)
 | 0, _, _, _ => none
 | k + 1, x0, x7, x8 => (if x8 < x7 then (if 0 ≤ x8 then (if x8 < (x0.length : Int) then ((impl_TypesOk_1.f (rdOf ByteArray.empty x0 x8)).bind fun t1 => (if t1 = true then (some x8) else (slices_IndexFunc_string_at_impl_TypesOk_1.p6 k x0 x7 (wrap64 (x8 + 1))))) else none) else none) else (some (-1)))
def slices_IndexFunc_string_at_impl_TypesOk_1.f (k : Nat) (a0 : List ByteArray) : Option (Int) := (slices_IndexFunc_string_at_impl_TypesOk_1.p6 k a0 (a0.length : Int) 0)
def slices_ContainsFunc_string_at_impl_TypesOk_1.f (k : Nat) (a0 : List ByteArray) : Option (Bool) := ((slices_IndexFunc_string_at_impl_TypesOk_1.f k a0).bind fun t1 => (some (decide (t1 ≥ 0))))
def impl_TypesOk.f (k : Nat) (a0 : List ByteArray) : Option (Bool) := ((impl_size_string.f a0).bind fun t1 => ((impl_within.f t1 1 12).bind fun t2 => (if t2 = true then ((slices_ContainsFunc_string_at_impl_TypesOk_1.f k a0).bind fun t3 => (some (!t3))) else (some false))))
def impl_size_implObj.f (a0 : List (Int × List Int)) : Option (Int) := (some (a0.length : Int))
def _impl_Graph_isNode.f (a0_0 : List Int) (a0_1 : List (Int × List Int)) (a1 : Int) : Option (Bool) := ((impl_size_implObj.f a0_1).bind fun t1 => ((impl_within.f a1 0 t1).bind fun t2 => (some t2)))
def impl_GraphOk_1.f (a0 : Int) (a1 : (List Int) × List (Int × List Int)) : Option (Bool) := ((_impl_Graph_isNode.f a1.1 a1.2 a0).bind fun t1 => (some (!t1)))
def slices_IndexFunc_int64_at_impl_GraphOk_1.p6 : Nat → List Int → (List Int) × List (Int × List Int) → Int → Int → Option (Int)
 | 0, _, _, _, _ => none
 | k + 1, x0, x1_0, x7, x8 => (if x8 < x7 then (if 0 ≤ x8 then (if x8 < (x0.length : Int) then ((impl_GraphOk_1.f (rd x0 x8) x1_0).bind fun t1 => (if t1 = true then (some x8) else (slices_IndexFunc_int64_at_impl_GraphOk_1.p6 k x0 x1_0 x7 (wrap64 (x8 + 1))))) else none) else none) else (some (-1)))
def slices_IndexFunc_int64_at_impl_GraphOk_1.f (k : Nat) (a0 : List Int) (a1_0 : (List Int) × List (Int × List Int)) : Option (Int) := (slices_IndexFunc_int64_at_impl_GraphOk_1.p6 k a0 a1_0 (a0.length : Int) 0)
def slices_ContainsFunc_int64_at_impl_GraphOk_1.f (k : Nat) (a0 : List Int) (a1_0 : (List Int) × List (Int × List Int)) : Option (Bool) := ((slices_IndexFunc_int64_at_impl_GraphOk_1.f k a0 a1_0).bind fun t1 => (some (decide (t1 ≥ 0))))
def impl_isObject_at__impl_Graph_isNode.p14 : Nat → List ByteArray → List Int → List (Int × List Int) → Int → List Int → List Int → Int → Int → Option (Bool)
 | 0, _, _, _, _, _, _, _, _ => none
 | k + 1, x0, x2_0_0, x2_0_1, x4_0, x4_1, x29, x30, x31 => (if x31 < x30 then (if 0 ≤ x31 then (if x31 < (x29.length : Int) then (if 0 ≤ x4_0 then (if x4_0 < (x0.length : Int) then (if 0 ≤ x31 then (if x31 < ((rdOf ByteArray.empty x0 x4_0).size : Int) then (if (byteAt (rdOf ByteArray.empty x0 x4_0) x31) = 114 then ((_impl_Graph_isNode.f x2_0_0 x2_0_1 (rd x29 x31)).bind fun t3 => (if t3 = true then (impl_isObject_at__impl_Graph_isNode.p14 k x0 x2_0_0 x2_0_1 x4_0 x4_1 x29 x30 (wrap64 (x31 + 1))) else (some false))) else (impl_isObject_at__impl_Graph_isNode.p14 k x0 x2_0_0 x2_0_1 x4_0 x4_1 x29 x30 (wrap64 (x31 + 1)))) else none) else none) else none) else none) else none) else none) else (some true))
def impl_isObject_at__impl_Graph_isNode.f (k : Nat) (a0 : List ByteArray) (a1_0 : Int) (a1_1 : List Int) (a2_0_0 : List Int) (a2_0_1 : List (Int × List Int)) : Option (Bool) := ((impl_size_string.f a0).bind fun t1 => ((impl_within.f a1_0 0 (wrap64 (t1 - 1))).bind fun t2 => (if t2 = true then (if 0 ≤ a1_0 then (if a1_0 < (a0.length : Int) then (if (a1_1.length : Int) = ((rdOf ByteArray.empty a0 a1_0).size : Int) then (impl_isObject_at__impl_Graph_isNode.p14 k a0 a2_0_0 a2_0_1 a1_0 a1_1 a1_1 (a1_1.length : Int) 0) else (some false)) else none) else none) else (some false))))
def impl_GraphOk_2.f (k : Nat) (a0_0 : Int) (a0_1 : List Int) (a1 : List ByteArray) (a2 : (List Int) × List (Int × List Int)) : Option (Bool) := ((impl_isObject_at__impl_Graph_isNode.f k a1 a0_0 a0_1 a2.1 a2.2).bind fun t1 => (some (!t1)))
def slices_IndexFunc_implObj_at_impl_GraphOk_2.p6 : Nat → List (Int × List Int) → List ByteArray → (List Int) × List (Int × List Int) → Int → Int → Option (Int)
 | 0, _, _, _, _, _ => none
 | k + 1, x0, x1_0, x1_1, x7, x8 => (if x8 < x7 then (if 0 ≤ x8 then (if x8 < (x0.length : Int) then ((impl_GraphOk_2.f k (rdOf (0, []) x0 x8).1 (rdOf (0, []) x0 x8).2 x1_0 x1_1).bind fun t1 => (if t1 = true then (some x8) else (slices_IndexFunc_implObj_at_impl_GraphOk_2.p6 k x0 x1_0 x1_1 x7 (wrap64 (x8 + 1))))) else none) else none) else (some (-1)))
def slices_IndexFunc_implObj_at_impl_GraphOk_2.f (k : Nat) (a0 : List (Int × List Int)) (a1_0 : List ByteArray) (a1_1 : (List Int) × List (Int × List Int)) : Option (Int) := (slices_IndexFunc_implObj_at_impl_GraphOk_2.p6 k a0 a1_0 a1_1 (a0.length : Int) 0)
def slices_ContainsFunc_implObj_at_impl_GraphOk_2.f (k : Nat) (a0 : List (Int × List Int)) (a1_0 : List ByteArray) (a1_1 : (List Int) × List (Int × List Int)) : Option (Bool) := ((slices_IndexFunc_implObj_at_impl_GraphOk_2.f k a0 a1_0 a1_1).bind fun t1 => (some (decide (t1 ≥ 0))))
def impl_GraphOk.p5 : Nat → List ByteArray → List Int → List (Int × List Int) → Bool → Option (Bool)
 | 0, _, _, _, _ => none
 | k + 1, x2_0, x3_0, x3_1, x20 => (if x20 = true then (some false) else ((slices_ContainsFunc_int64_at_impl_GraphOk_1.f k x3_0 (x3_0, x3_1)).bind fun t2 => (if t2 = true then (some false) else ((slices_ContainsFunc_implObj_at_impl_GraphOk_2.f k x3_1 x2_0 (x3_0, x3_1)).bind fun t3 => (some (!t3))))))
def impl_GraphOk.f (k : Nat) (a0 : List ByteArray) (a1_0 : List Int) (a1_1 : List (Int × List Int)) : Option (Bool) := ((impl_TypesOk.f k a0).bind fun t1 => (if t1 = true then (if (a1_0.length : Int) > 40 then (impl_GraphOk.p5 k a0 a1_0 a1_1 true) else (impl_GraphOk.p5 k a0 a1_0 a1_1 (decide ((a1_1.length : Int) > 400)))) else (impl_GraphOk.p5 k a0 a1_0 a1_1 true)))
def impl_discovered_1.p2 : Nat → List Bool → List Int → Int → Bool → Option (List Bool × List Int)
 | 0, _, _, _, _ => none
 | k + 1, h0_0, h2_0, x0, x13 => (if x13 = true then (if 0 ≤ (wrap64 (x0 - 1)) then (if (wrap64 (x0 - 1)) < (h0_0.length : Int) then (if h2_0.length + 1 ≤ 17592186044416 then (some ((h0_0.set (wrap64 (x0 - 1)).toNat true), (h2_0 ++ ([(wrap64 (x0 - 1))] : List Int)))) else none) else none) else none) else (some (h0_0, h2_0)))
def impl_discovered_1.f (k : Nat) (a0 : Int) (a1_0 : List Bool) (a2_0 : List Int) : Option (List Bool × List Int) := (if a0 > 0 then (if 0 ≤ (wrap64 (a0 - 1)) then (if (wrap64 (a0 - 1)) < (a1_0.length : Int) then (impl_discovered_1.p2 k a1_0 a2_0 a0 (!(rdOf false a1_0 (wrap64 (a0 - 1))))) else none) else none) else (impl_discovered_1.p2 k a1_0 a2_0 a0 false))
mutual
def impl_discovered.p12 : Nat → List ByteArray → List Int → List (Int × List Int) → List Int → List Bool → List Int → Int → Int → Option (List Int)
 | 0, _, _, _, _, _, _, _, _ => none
 | k + 1, x0, x3_0, x3_1, x5_0, x7_0_0, x21, x22, x23 => (if x23 < x22 then (if 0 ≤ x23 then (if x23 < (x21.length : Int) then ((impl_discovered_1.f k (rd x21 x23) x7_0_0 x5_0).bind fun t1 => (impl_discovered.p12 k x0 x3_0 x3_1 t1.2 t1.1 x21 x22 (wrap64 (x23 + 1)))) else none) else none) else (impl_discovered.p29 k x0 x3_0 x3_1 x5_0 x7_0_0 0))
def impl_discovered.p29 : Nat → List ByteArray → List Int → List (Int × List Int) → List Int → List Bool → Int → Option (List Int)
 | 0, _, _, _, _, _, _ => none
 | k + 1, x0, x3_0, x3_1, x5_0, x7_0_0, x10 => (if x10 < (x5_0.length : Int) then (if 0 ≤ x10 then (if x10 < (x5_0.length : Int) then (if 0 ≤ (rd x5_0 x10) then (if (rd x5_0 x10) < (x3_1.length : Int) then (impl_discovered.p43 k x0 x3_0 x3_1 x5_0 x7_0_0 x10 (rdOf (0, []) x3_1 (rd x5_0 x10)).1 (rdOf (0, []) x3_1 (rd x5_0 x10)).2 (rdOf (0, []) x3_1 (rd x5_0 x10)).2 ((rdOf (0, []) x3_1 (rd x5_0 x10)).2.length : Int) 0) else none) else none) else none) else none) else (some x5_0))
def impl_discovered.p43 : Nat → List ByteArray → List Int → List (Int × List Int) → List Int → List Bool → Int → Int → List Int → List Int → Int → Int → Option (List Int)
 | 0, _, _, _, _, _, _, _, _, _, _, _ => none
 | k + 1, x0, x3_0, x3_1, x5_0, x7_0_0, x10, x11_0, x11_1, x46, x47, x48 => (if x48 < x47 then (if 0 ≤ x48 then (if x48 < (x46.length : Int) then (if 0 ≤ x11_0 then (if x11_0 < (x0.length : Int) then (if 0 ≤ x48 then (if x48 < ((rdOf ByteArray.empty x0 x11_0).size : Int) then (if (byteAt (rdOf ByteArray.empty x0 x11_0) x48) = 114 then ((impl_discovered_1.f k (rd x46 x48) x7_0_0 x5_0).bind fun t2 => (impl_discovered.p43 k x0 x3_0 x3_1 t2.2 t2.1 x10 x11_0 x11_1 x46 x47 (wrap64 (x48 + 1)))) else (impl_discovered.p43 k x0 x3_0 x3_1 x5_0 x7_0_0 x10 x11_0 x11_1 x46 x47 (wrap64 (x48 + 1)))) else none) else none) else none) else none) else none) else none) else (impl_discovered.p29 k x0 x3_0 x3_1 x5_0 x7_0_0 (wrap64 (x10 + 1))))
end
def impl_discovered.f (k : Nat) (a0 : List ByteArray) (a1_0 : List Int) (a1_1 : List (Int × List Int)) : Option (List Int) := (if 0 ≤ (a1_1.length : Int) then (if (a1_1.length : Int).toNat ≤ 281474976710656 then (impl_discovered.p12 k a0 a1_0 a1_1 ([] : List Int) (List.replicate (a1_1.length : Int).toNat false) a1_0 (a1_0.length : Int) 0) else none) else none)
def slices_Sort_int64.f (a0 : List Int) : Option (List Int) := if a0.length < 4611686018427387904 then some (a0.mergeSort fun x y => decide (x ≤ y)) else none

def impl_Reached.f (k : Nat) (a0 : List ByteArray) (a1_0 : List Int) (a1_1 : List (Int × List Int)) : Option (List Int) := ((impl_GraphOk.f k a0 a1_0 a1_1).bind fun t1 => (if t1 = true then ((impl_discovered.f k a0 a1_0 a1_1).bind fun t2 => ((slices_Sort_int64.f t2).bind fun t3 => (some t3))) else (some ([] : List Int))))
def laws_eqInt64S.p14 : Nat → List Int → List Int → Int → Option (Bool)
 | 0, _, _, _ => none
 | k + 1, x0, x1, x5 => (if x5 < (x0.length : Int) then (if 0 ≤ x5 then (if x5 < (x0.length : Int) then (if 0 ≤ x5 then (if x5 < (x1.length : Int) then (if (rd x0 x5) = (rd x1 x5) then (laws_eqInt64S.p14 k x0 x1 (wrap64 (x5 + 1))) else (some false)) else none) else none) else none) else none) else (some true))
def laws_eqInt64S.f (k : Nat) (a0 : List Int) (a1 : List Int) : Option (Bool) := (if (a0.length : Int) = (a1.length : Int) then (laws_eqInt64S.p14 k a0 a1 0) else (some false))
def laws_eqStringS.p14 : Nat → List ByteArray → List ByteArray → Int → Option (Bool)
 | 0, _, _, _ => none
 | k + 1, x0, x1, x5 => (if x5 < (x0.length : Int) then (if 0 ≤ x5 then (if x5 < (x0.length : Int) then (if 0 ≤ x5 then (if x5 < (x1.length : Int) then (if (rdOf ByteArray.empty x0 x5).toList = (rdOf ByteArray.empty x1 x5).toList then (laws_eqStringS.p14 k x0 x1 (wrap64 (x5 + 1))) else (some false)) else none) else none) else none) else none) else (some true))
def laws_eqStringS.f (k : Nat) (a0 : List ByteArray) (a1 : List ByteArray) : Option (Bool) := (if (a0.length : Int) = (a1.length : Int) then (laws_eqStringS.p14 k a0 a1 0) else (some false))
def laws_eqObj.f (k : Nat) (a0_0 : Int) (a0_1 : List Int) (a1_0 : Int) (a1_1 : List Int) : Option (Bool) := (if a0_0 = a1_0 then ((laws_eqInt64S.f k a0_1 a1_1).bind fun t1 => (if t1 = true then (some true) else (some false))) else (some false))
def laws_eqObjS.p14 : Nat → List (Int × List Int) → List (Int × List Int) → Int → Option (Bool)
 | 0, _, _, _ => none
 | k + 1, x0, x1, x5 => (if x5 < (x0.length : Int) then (if 0 ≤ x5 then (if x5 < (x0.length : Int) then (if 0 ≤ x5 then (if x5 < (x1.length : Int) then ((laws_eqObj.f k (rdOf (0, []) x0 x5).1 (rdOf (0, []) x0 x5).2 (rdOf (0, []) x1 x5).1 (rdOf (0, []) x1 x5).2).bind fun t1 => (if t1 = true then (laws_eqObjS.p14 k x0 x1 (wrap64 (x5 + 1))) else (some false))) else none) else none) else none) else none) else (some true))
def laws_eqObjS.f (k : Nat) (a0 : List (Int × List Int)) (a1 : List (Int × List Int)) : Option (Bool) := (if (a0.length : Int) = (a1.length : Int) then (laws_eqObjS.p14 k a0 a1 0) else (some false))
def laws_eqGraph.f (k : Nat) (a0_0 : List Int) (a0_1 : List (Int × List Int)) (a1_0 : List Int) (a1_1 : List (Int × List Int)) : Option (Bool) := ((laws_eqInt64S.f k a0_0 a1_0).bind fun t1 => (if t1 = true then ((laws_eqObjS.f k a0_1 a1_1).bind fun t2 => (if t2 = true then (some true) else (some false))) else (some false)))
def laws_markText.p14 : Nat → Int → ByteArray → Option (ByteArray)
 | 0, _, _ => none
 | k + 1, x0, x3 => (if x0 > 0 then (if (strOf ([((wrap64 (48 + (Int.tmod x0 10))) % 256)] : List Int)).size + x3.size ≤ 9223372036854775807 then (laws_markText.p14 k (wrap64 (Int.tdiv x0 10)) ((strOf ([((wrap64 (48 + (Int.tmod x0 10))) % 256)] : List Int)) ++ x3)) else none) else (if (⟨#[109]⟩ : ByteArray).size + x3.size ≤ 9223372036854775807 then (some ((⟨#[109]⟩ : ByteArray) ++ x3)) else none))
def laws_markText.f (k : Nat) (a0 : Int) : Option (ByteArray) := (if a0 ≤ 0 then (some (⟨#[109, 48]⟩ : ByteArray)) else (laws_markText.p14 k a0 (⟨#[]⟩ : ByteArray)))
def laws_markStringS.p6 : Nat → List ByteArray → Int → Int → Option (List ByteArray × Int)
 | 0, _, _, _ => none
 | k + 1, h0, x1, x5 => (if x5 < (h0.length : Int) then ((laws_markText.f k x1).bind fun t1 => (if 0 ≤ x5 then (if x5 < (h0.length : Int) then (laws_markStringS.p6 k (h0.set x5.toNat t1) (wrap64 (x1 + 1)) (wrap64 (x5 + 1))) else none) else none)) else (some (h0, x1)))
def laws_markStringS.f (k : Nat) (a0 : List ByteArray) (a1 : Int) : Option (List ByteArray × Int) := (laws_markStringS.p6 k a0 a1 0)
def laws_markInt64S.p6 : Nat → List Int → Int → Int → Option (List Int × Int)
 | 0, _, _, _ => none
 | k + 1, h0, x1, x5 => (if x5 < (h0.length : Int) then (if 0 ≤ x5 then (if x5 < (h0.length : Int) then (laws_markInt64S.p6 k (h0.set x5.toNat x1) (wrap64 (x1 + 1)) (wrap64 (x5 + 1))) else none) else none) else (some (h0, x1)))
def laws_markInt64S.f (k : Nat) (a0 : List Int) (a1 : Int) : Option (List Int × Int) := (laws_markInt64S.p6 k a0 a1 0)
def laws_markObjS.p6 : Nat → List (Int × List Int) → Int → Int → Option (List (Int × List Int) × Int)
 | 0, _, _, _ => none
 | k + 1, h0, x1, x5 => (if x5 < (h0.length : Int) then (if 0 ≤ x5 then (if x5 < (h0.length : Int) then (if 0 ≤ x5 then (if x5 < ((h0.set x5.toNat (x1, (rdOf (0, []) h0 x5).2)).length : Int) then ((laws_markInt64S.f k (rdOf (0, []) (h0.set x5.toNat (x1, (rdOf (0, []) h0 x5).2)) x5).2 (wrap64 (x1 + 1))).bind fun t1 => (laws_markObjS.p6 k ((h0.set x5.toNat (x1, (rdOf (0, []) h0 x5).2)).set x5.toNat ((rdOf (0, []) (h0.set x5.toNat (x1, (rdOf (0, []) h0 x5).2)) x5).1, t1.1)) t1.2 (wrap64 (x5 + 1)))) else none) else none) else none) else none) else (some (h0, x1)))
def laws_markObjS.f (k : Nat) (a0 : List (Int × List Int)) (a1 : Int) : Option (List (Int × List Int) × Int) := (laws_markObjS.p6 k a0 a1 0)
def laws_markGraph.f (k : Nat) (a0_0 : List Int) (a0_1 : List (Int × List Int)) (a1 : Int) : Option (List Int × List (Int × List Int) × Int) := ((laws_markInt64S.f k a0_0 a1).bind fun t1 => ((laws_markObjS.f k a0_1 t1.2).bind fun t2 => (some (t1.1, t2.1, t2.2))))
def laws_heldInt64S.p6 : Nat → List Int → Int → Int → Option (Int)
 | 0, _, _, _ => none
 | k + 1, x0, x1, x5 => (if x5 < (x0.length : Int) then (if 0 ≤ x5 then (if x5 < (x0.length : Int) then (if (rd x0 x5) = x1 then (laws_heldInt64S.p6 k x0 (wrap64 (x1 + 1)) (wrap64 (x5 + 1))) else (some (-1))) else none) else none) else (some x1))
def laws_heldInt64S.f (k : Nat) (a0 : List Int) (a1 : Int) : Option (Int) := (laws_heldInt64S.p6 k a0 a1 0)
def laws_FnExactReached.f (k : Nat) (a0 : List ByteArray) (a1_0 : List Int) (a1_1 : List (Int × List Int)) : Option (Bool) := ((laws_szStringS.f k a0 1048576).bind fun t1 => (if t1 < 0 then (some true) else ((laws_szGraph.f k a1_0 a1_1 t1).bind fun t2 => (if t2 < 0 then (some true) else ((laws_toStringS.f k a0).bind fun t3 => ((laws_toGraph.f k a1_0 a1_1).bind fun t4 => ((spec_Reached.f k t3 t4.1 t4.2).bind fun t5 => ((laws_toStringS.f k a0).bind fun t6 => ((laws_toGraph.f k a1_0 a1_1).bind fun t7 => ((impl_Reached.f k t6 t7.1 t7.2).bind fun t8 => ((laws_eqInt64S.f k t8 t5).bind fun t9 => (if t9 = true then ((laws_toStringS.f k a0).bind fun t10 => ((laws_eqStringS.f k t6 t10).bind fun t11 => (if t11 = true then ((laws_toGraph.f k a1_0 a1_1).bind fun t12 => ((laws_eqGraph.f k t7.1 t7.2 t12.1 t12.2).bind fun t13 => (if t13 = true then ((laws_markStringS.f k t6 1).bind fun t14 => ((laws_markGraph.f k t7.1 t7.2 t14.2).bind fun t15 => (if t15.2.2 < 0 then (some false) else ((laws_eqInt64S.f k t8 t5).bind fun t16 => (if t16 = true then ((laws_markInt64S.f k t8 1).bind fun t17 => ((laws_heldInt64S.f k t17.1 1).bind fun t18 => (if t18 < 0 then (some false) else (if t18 = t17.2 then ((laws_toStringS.f k a0).bind fun t19 => ((laws_toGraph.f k a1_0 a1_1).bind fun t20 => ((impl_Reached.f k t19 t20.1 t20.2).bind fun t21 => ((laws_eqInt64S.f k t21 t5).bind fun t22 => (if t22 = true then ((laws_heldInt64S.f k t17.1 1).bind fun t23 => (if t23 < 0 then (some false) else (if t23 = t17.2 then (some true) else (some false)))) else (some false)))))) else (some false))))) else (some false)))))) else (some false)))) else (some false)))) else (some false)))))))))))))
/-- What is left to show. -/
def laws_FnExactReached.Pure : Prop := ∀ (x0 : List ByteArray) (x1 : (List Int) × List (Int × List Int)), Ty.ok (.sl .str) x0 → Ty.ok (.pair (.sl (.int .i64)) (.sl (.pair (.int .i64) (.sl (.int .i64))))) x1 → ∃ k, laws_FnExactReached.f k x0 x1.1 x1.2 = some true
end
end Go.Proofs.YtommgpkeicpokaaDoor.Abs
