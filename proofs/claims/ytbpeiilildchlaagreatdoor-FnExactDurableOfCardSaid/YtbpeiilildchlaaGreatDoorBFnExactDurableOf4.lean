/- The Lean functions that the machine tells of the program. (Merged out of this claim's own texts.) -/
import Derived.Test.YtbpeiilildchlaaGreatDoorBFnExactDurableOf3
import Derived.Shelf.Strings.SlTrimAscii
import Derived.Lib.Repeat
namespace Go.Proofs.YtbpeiilildchlaaGreatDoor.Abs
open Go Go.RowKit
set_option linter.unusedVariables false
set_option linter.unusedSectionVars false
set_option linter.unusedSimpArgs false
noncomputable section
def laws_szStringS.p16 : Nat → List ByteArray → Int → Int → Option (Int)
 | 0, _, _, _ => none
 | k + 1, x0, x1, x5 => (if x5 < (x0.length : Int) then (if 0 ≤ x5 then (if x5 < (x0.length : Int) then (if (wrap64 (x1 - ((rdOf ByteArray.empty x0 x5).size : Int))) < 0 then (some (-1)) else (laws_szStringS.p16 k x0 (wrap64 (x1 - ((rdOf ByteArray.empty x0 x5).size : Int))) (wrap64 (x5 + 1)))) else none) else none) else (some x1))
def laws_szStringS.f (k : Nat) (a0 : List ByteArray) (a1 : Int) : Option (Int) := (if (wrap64 (a1 - (a0.length : Int))) < 0 then (some (-1)) else (laws_szStringS.p16 k a0 (wrap64 (a1 - (a0.length : Int))) 0))
def laws_szConfig.f (k : Nat) (a0_0 : Int) (a0_1 : Int) (a0_2 : Int) (a0_3 : List ByteArray) (a1 : Int) : Option (Int) := ((laws_szStringS.f k a0_3 a1).bind fun t1 => (if t1 < 0 then (some (-1)) else (some t1)))
def laws_toStringS.p8 : Nat → List ByteArray → List ByteArray → Int → Option (List ByteArray)
 | 0, _, _, _ => none
 | k + 1, x0, x3, x4 => (if x4 < (x0.length : Int) then (if 0 ≤ x4 then (if x4 < (x0.length : Int) then (if 0 ≤ x4 then (if x4 < (x3.length : Int) then (laws_toStringS.p8 k x0 (x3.set x4.toNat (rdOf ByteArray.empty x0 x4)) (wrap64 (x4 + 1))) else none) else none) else none) else none) else (some x3))
def laws_toStringS.f (k : Nat) (a0 : List ByteArray) : Option (List ByteArray) := (if 0 ≤ (a0.length : Int) then (if (a0.length : Int).toNat ≤ 17592186044416 then (laws_toStringS.p8 k a0 (List.replicate (a0.length : Int).toNat (⟨#[]⟩ : ByteArray)) 0) else none) else none)
def laws_toConfig.f (k : Nat) (a0_0 : Int) (a0_1 : Int) (a0_2 : Int) (a0_3 : List ByteArray) : Option (Int × Int × Int × List ByteArray) := ((laws_toStringS.f k a0_3).bind fun t1 => (some (a0_0, a0_1, a0_2, t1)))
def spec_l1In.f (a0 : Int) (a1 : Int) (a2 : Int) : Option (Bool) := (if a0 ≥ a1 then (some (decide (a0 ≤ a2))) else (some false))
def spec_l3Type.p6 : Nat → ByteArray → Int → Option (Bool)
 | 0, _, _ => none
 | k + 1, x0, x3 => (if x3 < (x0.size : Int) then (if 0 ≤ x3 then (if x3 < (x0.size : Int) then (if (byteAt x0 x3) = 105 then (spec_l3Type.p6 k x0 (wrap64 (x3 + 1))) else (if 0 ≤ x3 then (if x3 < (x0.size : Int) then (if (byteAt x0 x3) = 114 then (spec_l3Type.p6 k x0 (wrap64 (x3 + 1))) else (some false)) else none) else none)) else none) else none) else ((spec_l1In.f (x0.size : Int) 1 23).bind fun t1 => (some t1)))
def spec_l3Type.f (k : Nat) (a0 : ByteArray) : Option (Bool) := (spec_l3Type.p6 k a0 0)
def spec_TypesOk.p14 : Nat → List ByteArray → Int → Option (Bool)
 | 0, _, _ => none
 | k + 1, x0, x3 => (if x3 < (x0.length : Int) then (if 0 ≤ x3 then (if x3 < (x0.length : Int) then ((spec_l3Type.f k (rdOf ByteArray.empty x0 x3)).bind fun t2 => (if t2 = true then (spec_TypesOk.p14 k x0 (wrap64 (x3 + 1))) else (some false))) else none) else none) else (some true))
def spec_TypesOk.f (k : Nat) (a0 : List ByteArray) : Option (Bool) := ((spec_l1In.f (a0.length : Int) 1 12).bind fun t1 => (if t1 = true then (spec_TypesOk.p14 k a0 0) else (some false)))
def spec_ConfigOk.f (k : Nat) (a0_0 : Int) (a0_1 : Int) (a0_2 : Int) (a0_3 : List ByteArray) : Option (Bool) := ((spec_l1In.f a0_0 8 128).bind fun t1 => (if t1 = true then ((spec_l1In.f a0_1 1 32).bind fun t2 => (if t2 = true then (if a0_1 ≤ (wrap64 (a0_0 - 5)) then ((spec_l1In.f a0_2 2 400).bind fun t3 => (if t3 = true then ((spec_TypesOk.f k a0_3).bind fun t4 => (some t4)) else (some false))) else (some false)) else (some false))) else (some false)))
def spec_l5Image.f (k : Nat) (a0_0 : Int) (a0_1 : Int) (a0_2 : Int) (a0_3 : List ByteArray) (a1 : ByteArray) : Option (Bool) := ((spec_ConfigOk.f k a0_0 a0_1 a0_2 a0_3).bind fun t1 => (if t1 = true then (some (decide ((a1.size : Int) = (wrap64 (64 * a0_0))))) else (some false)))
def spec_ReadWord.p16 : Nat → ByteArray → Int → Int → Option (Int × Bool)
 | 0, _, _, _ => none
 | k + 1, x0, x4, x5 => (if x5 < 8 then (if 0 ≤ x5 then (if x5 < (x0.size : Int) then (spec_ReadWord.p16 k x0 (orA .u64 (shlA .u64 x4 8) (IntKind.wrap .u64 (byteAt x0 x5))) (wrap64 (x5 + 1))) else none) else none) else (some ((wrap64 x4), true)))
def spec_ReadWord.f (k : Nat) (a0 : ByteArray) : Option (Int × Bool) := (if (a0.size : Int) = 8 then (spec_ReadWord.p16 k a0 0 0) else (some (0, false)))
def spec_l9Word.f (k : Nat) (a0 : ByteArray) (a1 : Int) : Option (Int) := (if 0 ≤ (wrap64 ((wrap64 (8 * a1)) + 8)) then (if (wrap64 ((wrap64 (8 * a1)) + 8)) ≤ (a0.size : Int) then (if 0 ≤ (wrap64 (8 * a1)) then (if (wrap64 (8 * a1)) ≤ (wrap64 ((wrap64 (8 * a1)) + 8)) then ((spec_ReadWord.f k (a0.extract (wrap64 (8 * a1)).toNat (wrap64 ((wrap64 (8 * a1)) + 8)).toNat)).bind fun t1 => (some t1.1)) else none) else none) else none) else none)
def spec_l10Slots.p8 : Nat → ByteArray → List Int → Int → Option (List Int)
 | 0, _, _, _ => none
 | k + 1, x0, x3, x4 => (if x4 < 8 then ((spec_l9Word.f k x0 (wrap64 (16 + x4))).bind fun t1 => (if x3.length + 1 ≤ 17592186044416 then (spec_l10Slots.p8 k x0 (x3 ++ ([t1] : List Int)) (wrap64 (x4 + 1))) else none)) else (some x3))
def spec_l10Slots.f (k : Nat) (a0 : ByteArray) : Option (List Int) := (spec_l10Slots.p8 k a0 ([] : List Int) 0)
def spec_RefKind.f (a0 : Int) : Option (Int) := (if a0 = 0 then (some 0) else ((spec_l1In.f a0 2 254).bind fun t1 => (if t1 = true then (if (Int.tmod a0 2) = 0 then (some 1) else ((spec_l1In.f a0 1 799).bind fun t2 => (if t2 = true then (if (Int.tmod a0 2) = 1 then (some 2) else (some (-1))) else (some (-1))))) else ((spec_l1In.f a0 1 799).bind fun t3 => (if t3 = true then (if (Int.tmod a0 2) = 1 then (some 2) else (some (-1))) else (some (-1)))))))
def spec_l10Line.f (a0_0 : Int) (a0_1 : Int) (a0_2 : Int) (a0_3 : List ByteArray) (a1 : Int) : Option (Bool) := ((spec_l1In.f a1 (wrap64 (4 + a0_1)) (wrap64 (a0_0 - 1))).bind fun t1 => (some t1))
def spec_l10Ref.f (a0_0 : Int) (a0_1 : Int) (a0_2 : Int) (a0_3 : List ByteArray) (a1 : Int) : Option (Bool) := (if a1 = 0 then (some true) else ((spec_RefKind.f a1).bind fun t1 => (if t1 = 1 then ((spec_l10Line.f a0_0 a0_1 a0_2 a0_3 (wrap64 (Int.tdiv a1 2))).bind fun t2 => (some t2)) else (some false))))
def spec_l10Refs.p6 : Nat → List Int → Int → Int → Int → List ByteArray → Int → Option (Bool)
 | 0, _, _, _, _, _, _ => none
 | k + 1, x1, x2_0, x2_1, x2_2, x2_3, x5 => (if x5 < (x1.length : Int) then (if 0 ≤ x5 then (if x5 < (x1.length : Int) then ((spec_l10Ref.f x2_0 x2_1 x2_2 x2_3 (rd x1 x5)).bind fun t1 => (if t1 = true then (spec_l10Refs.p6 k x1 x2_0 x2_1 x2_2 x2_3 (wrap64 (x5 + 1))) else (some false))) else none) else none) else (some true))
def spec_l10Refs.f (k : Nat) (a0_0 : Int) (a0_1 : Int) (a0_2 : Int) (a0_3 : List ByteArray) (a1 : List Int) : Option (Bool) := (spec_l10Refs.p6 k a1 a0_0 a0_1 a0_2 a0_3 0)
def spec_RootsOf.f (k : Nat) (a0_0 : Int) (a0_1 : Int) (a0_2 : Int) (a0_3 : List ByteArray) (a1 : ByteArray) : Option (List Int × Bool) := ((spec_l5Image.f k a0_0 a0_1 a0_2 a0_3 a1).bind fun t1 => (if t1 = true then ((spec_l10Slots.f k a1).bind fun t2 => ((spec_l10Refs.f k a0_0 a0_1 a0_2 a0_3 t2).bind fun t3 => (if t3 = true then ((spec_l10Slots.f k a1).bind fun t4 => (some (t4, true))) else (some (([] : List Int), false))))) else (some (([] : List Int), false))))
def spec_l7Place.p6 : Nat → List Int → Int → Int → Option (Int)
 | 0, _, _, _ => none
 | k + 1, x0, x1, x5 => (if x5 < (x0.length : Int) then (if 0 ≤ x5 then (if x5 < (x0.length : Int) then (if (rd x0 x5) = x1 then (some x5) else (spec_l7Place.p6 k x0 x1 (wrap64 (x5 + 1)))) else none) else none) else (some (-1)))
def spec_l7Place.f (k : Nat) (a0 : List Int) (a1 : Int) : Option (Int) := (spec_l7Place.p6 k a0 a1 0)
def spec_RunOf.f (k : Nat) (a0 : ByteArray) : Option (Int) := ((spec_l3Type.f k a0).bind fun t1 => (if t1 = true then (some (wrap64 (Int.tdiv (wrap64 ((wrap64 (1 + (a0.size : Int))) + 7)) 8))) else (some 0)))
def spec_ObjOk.p14 : Nat → List ByteArray → Int → List Int → Int → Option (Bool)
 | 0, _, _, _, _ => none
 | k + 1, x0, x3_0, x3_1, x5 => (if x5 < (x3_1.length : Int) then (if 0 ≤ x3_0 then (if x3_0 < (x0.length : Int) then (if 0 ≤ x5 then (if x5 < ((rdOf ByteArray.empty x0 x3_0).size : Int) then (if (byteAt (rdOf ByteArray.empty x0 x3_0) x5) = 114 then (if 0 ≤ x5 then (if x5 < (x3_1.length : Int) then ((spec_RefKind.f (rd x3_1 x5)).bind fun t3 => (if t3 < 0 then (some false) else (spec_ObjOk.p14 k x0 x3_0 x3_1 (wrap64 (x5 + 1))))) else none) else none) else (spec_ObjOk.p14 k x0 x3_0 x3_1 (wrap64 (x5 + 1)))) else none) else none) else none) else none) else (some true))
def spec_ObjOk.f (k : Nat) (a0 : List ByteArray) (a1_0 : Int) (a1_1 : List Int) : Option (Bool) := ((spec_TypesOk.f k a0).bind fun t1 => (if t1 = true then ((spec_l1In.f a1_0 0 (wrap64 ((a0.length : Int) - 1))).bind fun t2 => (if t2 = true then (if 0 ≤ a1_0 then (if a1_0 < (a0.length : Int) then (if (a1_1.length : Int) = ((rdOf ByteArray.empty a0 a1_0).size : Int) then (spec_ObjOk.p14 k a0 a1_0 a1_1 0) else (some false)) else none) else none) else (some false))) else (some false)))
def spec_WordBytes.p8 : Nat → Int → List Int → Int → Option (ByteArray)
 | 0, _, _, _ => none
 | k + 1, x0, x3, x4 => (if x4 < 8 then (if (IntKind.wrap .u64 (wrap64 (56 - (wrap64 (8 * x4))))) < 0 then none else (if 0 ≤ x4 then (if x4 < (x3.length : Int) then (spec_WordBytes.p8 k x0 (x3.set x4.toNat ((shrA .u64 (IntKind.wrap .u64 x0) (IntKind.wrap .u64 (wrap64 (56 - (wrap64 (8 * x4)))))) % 256)) (wrap64 (x4 + 1))) else none) else none)) else (some (strOf x3)))
def spec_WordBytes.f (k : Nat) (a0 : Int) : Option (ByteArray) := (spec_WordBytes.p8 k a0 (List.replicate 8 (0 : Int)) 0)
def spec_l1Zeros.f (a0 : Int) : Option (ByteArray) := (if 0 ≤ a0 then (if a0.toNat ≤ 281474976710656 then (some (strOf (List.replicate a0.toNat (0 : Int)))) else none) else none)
def spec_ObjectBytes.p16 : Nat → List ByteArray → Int → List Int → ByteArray → Int → Option (ByteArray)
 | 0, _, _, _, _, _ => none
 | k + 1, x0, x3_0, x3_1, x5, x6 => (if x6 < (x3_1.length : Int) then (if 0 ≤ x6 then (if x6 < (x3_1.length : Int) then ((spec_WordBytes.f k (rd x3_1 x6)).bind fun t3 => (if x5.size + t3.size ≤ 9223372036854775807 then (spec_ObjectBytes.p16 k x0 x3_0 x3_1 (x5 ++ t3) (wrap64 (x6 + 1))) else none)) else none) else none) else (if 0 ≤ x3_0 then (if x3_0 < (x0.length : Int) then ((spec_RunOf.f k (rdOf ByteArray.empty x0 x3_0)).bind fun t4 => ((spec_l1Zeros.f (wrap64 ((wrap64 (64 * t4)) - (x5.size : Int)))).bind fun t5 => (if x5.size + t5.size ≤ 9223372036854775807 then (some (x5 ++ t5)) else none))) else none) else none))
def spec_ObjectBytes.f (k : Nat) (a0 : List ByteArray) (a1_0 : Int) (a1_1 : List Int) : Option (ByteArray) := ((spec_ObjOk.f k a0 a1_0 a1_1).bind fun t1 => (if t1 = true then ((spec_WordBytes.f k (wrap64 (a1_0 + 1))).bind fun t2 => (spec_ObjectBytes.p16 k a0 a1_0 a1_1 t2 0)) else (some (⟨#[]⟩ : ByteArray))))
mutual
def spec_ReadObject.p5 : Nat → List ByteArray → ByteArray → Int → Bool → Option (Int × List Int × Bool)
 | 0, _, _, _, _ => none
 | k + 1, x0, x1, x4_0, x19 => (if x19 = true then (some (0, ([] : List Int), false)) else (if 8 ≤ (x1.size : Int) then ((spec_ReadWord.f k (x1.extract 0 8)).bind fun t4 => ((spec_l1In.f t4.1 1 (x0.length : Int)).bind fun t5 => (if t5 = true then (if 0 ≤ (wrap64 (t4.1 - 1)) then (if (wrap64 (t4.1 - 1)) < (x0.length : Int) then ((spec_RunOf.f k (rdOf ByteArray.empty x0 (wrap64 (t4.1 - 1)))).bind fun t6 => (if (x1.size : Int) = (wrap64 (64 * t6)) then (spec_ReadObject.p26 k x0 x1 x4_0 t4.1 (wrap64 (t4.1 - 1)) ([] : List Int) 0) else (some (0, ([] : List Int), false)))) else none) else none) else (some (0, ([] : List Int), false))))) else none))
def spec_ReadObject.p26 : Nat → List ByteArray → ByteArray → Int → Int → Int → List Int → Int → Option (Int × List Int × Bool)
 | 0, _, _, _, _, _, _, _ => none
 | k + 1, x0, x1, x4_0, x6, x8_0, x8_1, x9 => (if 0 ≤ (wrap64 (x6 - 1)) then (if (wrap64 (x6 - 1)) < (x0.length : Int) then (if x9 < ((rdOf ByteArray.empty x0 (wrap64 (x6 - 1))).size : Int) then (if 0 ≤ (wrap64 (16 + (wrap64 (8 * x9)))) then (if (wrap64 (16 + (wrap64 (8 * x9)))) ≤ (x1.size : Int) then (if 0 ≤ (wrap64 (8 + (wrap64 (8 * x9)))) then (if (wrap64 (8 + (wrap64 (8 * x9)))) ≤ (wrap64 (16 + (wrap64 (8 * x9)))) then ((spec_ReadWord.f k (x1.extract (wrap64 (8 + (wrap64 (8 * x9)))).toNat (wrap64 (16 + (wrap64 (8 * x9)))).toNat)).bind fun t2 => (if x8_1.length + 1 ≤ 17592186044416 then (spec_ReadObject.p26 k x0 x1 x4_0 x6 x8_0 (x8_1 ++ ([t2.1] : List Int)) (wrap64 (x9 + 1))) else none)) else none) else none) else none) else none) else ((spec_ObjectBytes.f k x0 x8_0 x8_1).bind fun t3 => (if t3.toList = x1.toList then (some (x8_0, x8_1, true)) else (some (0, ([] : List Int), false))))) else none) else none)
end
def spec_ReadObject.f (k : Nat) (a0 : List ByteArray) (a1 : ByteArray) : Option (Int × List Int × Bool) := ((spec_TypesOk.f k a0).bind fun t1 => (if t1 = true then (spec_ReadObject.p5 k a0 a1 0 (decide ((a1.size : Int) < 64))) else (spec_ReadObject.p5 k a0 a1 0 true)))
def spec_l10Obj.f (k : Nat) (a0_0 : Int) (a0_1 : Int) (a0_2 : Int) (a0_3 : List ByteArray) (a1 : ByteArray) (a2 : Int) : Option (Int × List Int × Bool) := ((spec_l9Word.f k a1 (wrap64 (8 * a2))).bind fun t1 => ((spec_l1In.f t1 1 (a0_3.length : Int)).bind fun t2 => (if t2 = true then (if 0 ≤ (wrap64 (t1 - 1)) then (if (wrap64 (t1 - 1)) < (a0_3.length : Int) then ((spec_RunOf.f k (rdOf ByteArray.empty a0_3 (wrap64 (t1 - 1)))).bind fun t3 => (if (wrap64 (64 * (wrap64 (a2 + t3)))) > (a1.size : Int) then (some (0, ([] : List Int), false)) else (if 0 ≤ (wrap64 (64 * (wrap64 (a2 + t3)))) then (if (wrap64 (64 * (wrap64 (a2 + t3)))) ≤ (a1.size : Int) then (if 0 ≤ (wrap64 (64 * a2)) then (if (wrap64 (64 * a2)) ≤ (wrap64 (64 * (wrap64 (a2 + t3)))) then ((spec_ReadObject.f k a0_3 (a1.extract (wrap64 (64 * a2)).toNat (wrap64 (64 * (wrap64 (a2 + t3)))).toNat)).bind fun t4 => (some (t4.1, t4.2.1, t4.2.2))) else none) else none) else none) else none))) else none) else none) else (some (0, ([] : List Int), false)))))
def spec_l10Old.p16 : Nat → Int → Int → Int → List ByteArray → Int → Int → List Int → Int → Option (Int × List Int × Bool)
 | 0, _, _, _, _, _, _, _, _ => none
 | k + 1, x3_0, x3_1, x3_2, x3_3, x6_0, x8_0, x8_1, x10 => (if x10 < (x8_1.length : Int) then (if 0 ≤ x8_0 then (if x8_0 < (x3_3.length : Int) then (if 0 ≤ x10 then (if x10 < ((rdOf ByteArray.empty x3_3 x8_0).size : Int) then (if (byteAt (rdOf ByteArray.empty x3_3 x8_0) x10) = 114 then (if 0 ≤ x10 then (if x10 < (x8_1.length : Int) then ((spec_l10Ref.f x3_0 x3_1 x3_2 x3_3 (rd x8_1 x10)).bind fun t2 => (if t2 = true then (spec_l10Old.p16 k x3_0 x3_1 x3_2 x3_3 x6_0 x8_0 x8_1 (wrap64 (x10 + 1))) else (some (0, ([] : List Int), false)))) else none) else none) else (spec_l10Old.p16 k x3_0 x3_1 x3_2 x3_3 x6_0 x8_0 x8_1 (wrap64 (x10 + 1)))) else none) else none) else none) else none) else (some (x8_0, x8_1, true)))
def spec_l10Old.f (k : Nat) (a0_0 : Int) (a0_1 : Int) (a0_2 : Int) (a0_3 : List ByteArray) (a1 : ByteArray) (a2 : Int) : Option (Int × List Int × Bool) := ((spec_l10Obj.f k a0_0 a0_1 a0_2 a0_3 a1 a2).bind fun t1 => (if t1.2.2 = true then (spec_l10Old.p16 k a0_0 a0_1 a0_2 a0_3 0 t1.1 t1.2.1 0) else (some (0, ([] : List Int), false))))
mutual
def spec_l10Find.p8 : Nat → ByteArray → List Int → Int → Int → Int → List ByteArray → List Int → Int → Option (List Int × List (Int × List Int) × Bool)
 | 0, _, _, _, _, _, _, _, _ => none
 | k + 1, x1, x2, x3_0, x3_1, x3_2, x3_3, x9, x10 => (if x10 < (x2.length : Int) then (if 0 ≤ x10 then (if x10 < (x2.length : Int) then (if (rd x2 x10) = 0 then (spec_l10Find.p8 k x1 x2 x3_0 x3_1 x3_2 x3_3 x9 (wrap64 (x10 + 1))) else (if 0 ≤ x10 then (if x10 < (x2.length : Int) then ((spec_l7Place.f k x9 (wrap64 (Int.tdiv (rd x2 x10) 2))).bind fun t1 => (if t1 < 0 then (if 0 ≤ x10 then (if x10 < (x2.length : Int) then (if x9.length + 1 ≤ 17592186044416 then (spec_l10Find.p8 k x1 x2 x3_0 x3_1 x3_2 x3_3 (x9 ++ ([(wrap64 (Int.tdiv (rd x2 x10) 2))] : List Int)) (wrap64 (x10 + 1))) else none) else none) else none) else (spec_l10Find.p8 k x1 x2 x3_0 x3_1 x3_2 x3_3 x9 (wrap64 (x10 + 1))))) else none) else none)) else none) else none) else (spec_l10Find.p31 k x1 x3_0 x3_1 x3_2 x3_3 x9 ([] : List (Int × List Int)) ([] : List Int) 0))
def spec_l10Find.p31 : Nat → ByteArray → Int → Int → Int → List ByteArray → List Int → List (Int × List Int) → List Int → Int → Option (List Int × List (Int × List Int) × Bool)
 | 0, _, _, _, _, _, _, _, _, _ => none
 | k + 1, x1, x3_0, x3_1, x3_2, x3_3, x9, x11, x12, x13 => (if x13 < (x9.length : Int) then (if 0 ≤ x13 then (if x13 < (x9.length : Int) then ((spec_l10Old.f k x3_0 x3_1 x3_2 x3_3 x1 (rd x9 x13)).bind fun t2 => (if t2.2.2 = true then (spec_l10Find.p54 k x1 x3_0 x3_1 x3_2 x3_3 x9 x11 x12 x13 t2.1 t2.2.1 0) else (some (([] : List Int), ([] : List (Int × List Int)), false)))) else none) else none) else (some (x9, x11, true)))
def spec_l10Find.p54 : Nat → ByteArray → Int → Int → Int → List ByteArray → List Int → List (Int × List Int) → List Int → Int → Int → List Int → Int → Option (List Int × List (Int × List Int) × Bool)
 | 0, _, _, _, _, _, _, _, _, _, _, _, _ => none
 | k + 1, x1, x3_0, x3_1, x3_2, x3_3, x9, x11, x12, x13, x14_0, x14_1, x16 => (if 0 ≤ x14_0 then (if x14_0 < (x3_3.length : Int) then ((spec_RunOf.f k (rdOf ByteArray.empty x3_3 x14_0)).bind fun t3 => (if x16 < t3 then (if 0 ≤ x13 then (if x13 < (x9.length : Int) then ((spec_l7Place.f k x12 (wrap64 ((rd x9 x13) + x16))).bind fun t4 => (if t4 ≥ 0 then (some (([] : List Int), ([] : List (Int × List Int)), false)) else (if 0 ≤ x13 then (if x13 < (x9.length : Int) then (if x12.length + 1 ≤ 17592186044416 then (spec_l10Find.p54 k x1 x3_0 x3_1 x3_2 x3_3 x9 x11 (x12 ++ ([(wrap64 ((rd x9 x13) + x16))] : List Int)) x13 x14_0 x14_1 (wrap64 (x16 + 1))) else none) else none) else none))) else none) else none) else (spec_l10Find.p77 k x1 x3_0 x3_1 x3_2 x3_3 x9 x11 x12 x13 x14_0 x14_1 0))) else none) else none)
def spec_l10Find.p77 : Nat → ByteArray → Int → Int → Int → List ByteArray → List Int → List (Int × List Int) → List Int → Int → Int → List Int → Int → Option (List Int × List (Int × List Int) × Bool)
 | 0, _, _, _, _, _, _, _, _, _, _, _, _ => none
 | k + 1, x1, x3_0, x3_1, x3_2, x3_3, x9, x11, x12, x13, x14_0, x14_1, x17 => (if x17 < (x14_1.length : Int) then (if 0 ≤ x14_0 then (if x14_0 < (x3_3.length : Int) then (if 0 ≤ x17 then (if x17 < ((rdOf ByteArray.empty x3_3 x14_0).size : Int) then (if (byteAt (rdOf ByteArray.empty x3_3 x14_0) x17) = 114 then (if 0 ≤ x17 then (if x17 < (x14_1.length : Int) then (if (rd x14_1 x17) = 0 then (spec_l10Find.p88 k x1 x3_0 x3_1 x3_2 x3_3 x9 x11 x12 x13 x14_0 x14_1 x17 false) else (if 0 ≤ x17 then (if x17 < (x14_1.length : Int) then ((spec_l7Place.f k x9 (wrap64 (Int.tdiv (rd x14_1 x17) 2))).bind fun t5 => (spec_l10Find.p88 k x1 x3_0 x3_1 x3_2 x3_3 x9 x11 x12 x13 x14_0 x14_1 x17 (decide (t5 < 0)))) else none) else none)) else none) else none) else (spec_l10Find.p88 k x1 x3_0 x3_1 x3_2 x3_3 x9 x11 x12 x13 x14_0 x14_1 x17 false)) else none) else none) else none) else none) else (if x11.length + 1 ≤ 4398046511104 then (spec_l10Find.p31 k x1 x3_0 x3_1 x3_2 x3_3 x9 ((x11 ++ ([(x14_0, x14_1)] : List (Int × List Int))).set x11.length (((x11 ++ ([(x14_0, x14_1)] : List (Int × List Int))).getD x11.length (0, [])).1, x14_1)) x12 (wrap64 (x13 + 1))) else none))
def spec_l10Find.p88 : Nat → ByteArray → Int → Int → Int → List ByteArray → List Int → List (Int × List Int) → List Int → Int → Int → List Int → Int → Bool → Option (List Int × List (Int × List Int) × Bool)
 | 0, _, _, _, _, _, _, _, _, _, _, _, _, _ => none
 | k + 1, x1, x3_0, x3_1, x3_2, x3_3, x9, x11, x12, x13, x14_0, x14_1, x17, x131 => (if x131 = true then (if 0 ≤ x17 then (if x17 < (x14_1.length : Int) then (if x9.length + 1 ≤ 17592186044416 then (spec_l10Find.p77 k x1 x3_0 x3_1 x3_2 x3_3 (x9 ++ ([(wrap64 (Int.tdiv (rd x14_1 x17) 2))] : List Int)) x11 x12 x13 x14_0 x14_1 (wrap64 (x17 + 1))) else none) else none) else none) else (spec_l10Find.p77 k x1 x3_0 x3_1 x3_2 x3_3 x9 x11 x12 x13 x14_0 x14_1 (wrap64 (x17 + 1))))
end
def spec_l10Find.f (k : Nat) (a0_0 : Int) (a0_1 : Int) (a0_2 : Int) (a0_3 : List ByteArray) (a1 : ByteArray) (a2 : List Int) : Option (List Int × List (Int × List Int) × Bool) := (spec_l10Find.p8 k a1 a2 a0_0 a0_1 a0_2 a0_3 ([] : List Int) 0)
def spec_l10Told.f (k : Nat) (a0 : List Int) (a1 : Int) : Option (Int) := (if a1 = 0 then (some 0) else ((spec_l7Place.f k a0 (wrap64 (Int.tdiv a1 2))).bind fun t1 => (some (wrap64 (t1 + 1)))))
mutual
def spec_DurableOf.p28 : Nat → Int → Int → Int → List ByteArray → List Int → List Int → List (Int × List Int) → List Int → Int → Option (List Int × List (Int × List Int) × Bool)
 | 0, _, _, _, _, _, _, _, _, _ => none
 | k + 1, x2_0, x2_1, x2_2, x2_3, x6, x8, x9, x11_0, x12 => (if x12 < (x6.length : Int) then (if 0 ≤ x12 then (if x12 < (x6.length : Int) then ((spec_l10Told.f k x8 (rd x6 x12)).bind fun t3 => (if x11_0.length + 1 ≤ 17592186044416 then (spec_DurableOf.p28 k x2_0 x2_1 x2_2 x2_3 x6 x8 x9 (x11_0 ++ ([t3] : List Int)) (wrap64 (x12 + 1))) else none)) else none) else none) else (spec_DurableOf.p43 k x2_0 x2_1 x2_2 x2_3 x8 x9 x11_0 ([] : List (Int × List Int)) 0))
def spec_DurableOf.p43 : Nat → Int → Int → Int → List ByteArray → List Int → List (Int × List Int) → List Int → List (Int × List Int) → Int → Option (List Int × List (Int × List Int) × Bool)
 | 0, _, _, _, _, _, _, _, _, _ => none
 | k + 1, x2_0, x2_1, x2_2, x2_3, x8, x9, x11_0, x11_1, x13 => (if x13 < (x9.length : Int) then (if 0 ≤ x13 then (if x13 < (x9.length : Int) then (spec_DurableOf.p58 k x2_0 x2_1 x2_2 x2_3 x8 x9 x11_0 x11_1 x13 (rdOf (0, []) x9 x13).1 ([] : List Int) 0) else none) else none) else (some (x11_0, x11_1, true)))
def spec_DurableOf.p58 : Nat → Int → Int → Int → List ByteArray → List Int → List (Int × List Int) → List Int → List (Int × List Int) → Int → Int → List Int → Int → Option (List Int × List (Int × List Int) × Bool)
 | 0, _, _, _, _, _, _, _, _, _, _, _, _ => none
 | k + 1, x2_0, x2_1, x2_2, x2_3, x8, x9, x11_0, x11_1, x13, x14_0, x14_1, x15 => (if 0 ≤ x13 then (if x13 < (x9.length : Int) then (if x15 < ((rdOf (0, []) x9 x13).2.length : Int) then (if 0 ≤ x13 then (if x13 < (x9.length : Int) then (if 0 ≤ x15 then (if x15 < ((rdOf (0, []) x9 x13).2.length : Int) then (if 0 ≤ x14_0 then (if x14_0 < (x2_3.length : Int) then (if 0 ≤ x15 then (if x15 < ((rdOf ByteArray.empty x2_3 x14_0).size : Int) then (if (byteAt (rdOf ByteArray.empty x2_3 x14_0) x15) = 114 then ((spec_l10Told.f k x8 (rd (rdOf (0, []) x9 x13).2 x15)).bind fun t4 => (if x14_1.length + 1 ≤ 17592186044416 then (spec_DurableOf.p58 k x2_0 x2_1 x2_2 x2_3 x8 x9 x11_0 x11_1 x13 x14_0 (x14_1 ++ ([t4] : List Int)) (wrap64 (x15 + 1))) else none)) else (if x14_1.length + 1 ≤ 17592186044416 then (spec_DurableOf.p58 k x2_0 x2_1 x2_2 x2_3 x8 x9 x11_0 x11_1 x13 x14_0 (x14_1 ++ ([(rd (rdOf (0, []) x9 x13).2 x15)] : List Int)) (wrap64 (x15 + 1))) else none)) else none) else none) else none) else none) else none) else none) else none) else none) else (if x11_1.length + 1 ≤ 4398046511104 then (spec_DurableOf.p43 k x2_0 x2_1 x2_2 x2_3 x8 x9 x11_0 ((x11_1 ++ ([(x14_0, x14_1)] : List (Int × List Int))).set x11_1.length (((x11_1 ++ ([(x14_0, x14_1)] : List (Int × List Int))).getD x11_1.length (0, [])).1, x14_1)) (wrap64 (x13 + 1))) else none)) else none) else none)
end
def spec_DurableOf.f (k : Nat) (a0_0 : Int) (a0_1 : Int) (a0_2 : Int) (a0_3 : List ByteArray) (a1 : ByteArray) : Option (List Int × List (Int × List Int) × Bool) := ((spec_RootsOf.f k a0_0 a0_1 a0_2 a0_3 a1).bind fun t1 => (if t1.2 = true then ((spec_l10Find.f k a0_0 a0_1 a0_2 a0_3 a1 t1.1).bind fun t2 => (if t2.2.2 = true then (spec_DurableOf.p28 k a0_0 a0_1 a0_2 a0_3 t1.1 t2.1 t2.2.1 ([] : List Int) 0) else (some (([] : List Int), ([] : List (Int × List Int)), false)))) else (some (([] : List Int), ([] : List (Int × List Int)), false))))
def impl_within.f (a0 : Int) (a1 : Int) (a2 : Int) : Option (Bool) := (if a0 ≥ a1 then (some (decide (a0 ≤ a2))) else (some false))
def impl_size_string.f (a0 : List ByteArray) : Option (Int) := (some (a0.length : Int))
def strings_Trim.f (a0 a1 : ByteArray) : Option ByteArray :=
  if a0.size ≤ 9223372036854775807 then (if a1.size ≤ 1000 then (if a1.data.toList.all (fun b => decide (b.toNat < 128)) = true then some ⟨(Lib.trimS a0.data.toList a1.data.toList).toArray⟩ else none) else none) else none

def impl_isType.f (a0 : ByteArray) : Option (Bool) := ((impl_within.f (a0.size : Int) 1 23).bind fun t1 => (if t1 = true then ((strings_Trim.f a0 (⟨#[105, 114]⟩ : ByteArray)).bind fun t2 => (some (decide (t2.toList = (⟨#[]⟩ : ByteArray).toList)))) else (some false)))
def impl_TypesOk_1.f (a0 : ByteArray) : Option (Bool) := ((impl_isType.f a0).bind fun t1 => (some (!t1)))
def slices_IndexFunc_string_at_impl_TypesOk_1.p6 : Nat → List ByteArray → Int → Int → Option (Int)
 | 0, _, _, _ => none
 | k + 1, x0, x7, x8 => (if x8 < x7 then (if 0 ≤ x8 then (if x8 < (x0.length : Int) then ((impl_TypesOk_1.f (rdOf ByteArray.empty x0 x8)).bind fun t1 => (if t1 = true then (some x8) else (slices_IndexFunc_string_at_impl_TypesOk_1.p6 k x0 x7 (wrap64 (x8 + 1))))) else none) else none) else (some (-1)))
def slices_IndexFunc_string_at_impl_TypesOk_1.f (k : Nat) (a0 : List ByteArray) : Option (Int) := (slices_IndexFunc_string_at_impl_TypesOk_1.p6 k a0 (a0.length : Int) 0)
def slices_ContainsFunc_string_at_impl_TypesOk_1.f (k : Nat) (a0 : List ByteArray) : Option (Bool) := ((slices_IndexFunc_string_at_impl_TypesOk_1.f k a0).bind fun t1 => (some (decide (t1 ≥ 0))))
def impl_TypesOk.f (k : Nat) (a0 : List ByteArray) : Option (Bool) := ((impl_size_string.f a0).bind fun t1 => ((impl_within.f t1 1 12).bind fun t2 => (if t2 = true then ((slices_ContainsFunc_string_at_impl_TypesOk_1.f k a0).bind fun t3 => (some (!t3))) else (some false))))
def impl_ConfigOk.f (k : Nat) (a0_0 : Int) (a0_1 : Int) (a0_2 : Int) (a0_3 : List ByteArray) : Option (Bool) := ((impl_within.f a0_0 8 128).bind fun t1 => (if t1 = true then ((impl_within.f a0_1 1 (if (wrap64 (a0_0 - 5)) < 32 then (wrap64 (a0_0 - 5)) else 32)).bind fun t2 => (if t2 = true then ((impl_within.f a0_2 2 400).bind fun t3 => (if t3 = true then ((impl_TypesOk.f k a0_3).bind fun t4 => (some t4)) else (some false))) else (some false))) else (some false)))
def impl_isImage.f (k : Nat) (a0_0 : Int) (a0_1 : Int) (a0_2 : Int) (a0_3 : List ByteArray) (a1 : ByteArray) : Option (Bool) := ((impl_ConfigOk.f k a0_0 a0_1 a0_2 a0_3).bind fun t1 => (if t1 = true then (some (decide ((a1.size : Int) = (wrap64 (64 * a0_0))))) else (some false)))
def impl_wordAt.p8 : Nat → ByteArray → Int → Int → Int → Option (Int)
 | 0, _, _, _, _ => none
 | k + 1, x0, x1, x5, x7 => (if x7 < 8 then (if 0 ≤ (wrap64 (x1 + x7)) then (if (wrap64 (x1 + x7)) < (x0.size : Int) then (impl_wordAt.p8 k x0 x1 (orA .i64 (shlA .i64 x5 8) (wrap64 (byteAt x0 (wrap64 (x1 + x7))))) (wrap64 (x7 + 1))) else none) else none) else (some x5))
def impl_wordAt.f (k : Nat) (a0 : ByteArray) (a1 : Int) : Option (Int) := (impl_wordAt.p8 k a0 a1 0 0)
def impl_wordsOf.p8 : Nat → ByteArray → Int → List Int → Int → Option (List Int)
 | 0, _, _, _, _ => none
 | k + 1, x0, x1, x5, x8 => (if x8 < 8 then ((impl_wordAt.f k x0 (wrap64 ((wrap64 (64 * x1)) + (wrap64 (8 * x8))))).bind fun t1 => (if x5.length + 1 ≤ 17592186044416 then (impl_wordsOf.p8 k x0 x1 (x5 ++ ([t1] : List Int)) (wrap64 (x8 + 1))) else none)) else (some x5))
def impl_wordsOf.f (k : Nat) (a0 : ByteArray) (a1 : Int) : Option (List Int) := (impl_wordsOf.p8 k a0 a1 ([] : List Int) 0)
def impl_RefKind.f (a0 : Int) : Option (Int) := (if a0 = 0 then (some 0) else ((impl_within.f a0 2 254).bind fun t1 => (if t1 = true then (if (Int.tmod a0 2) = 0 then (some 1) else ((impl_within.f a0 1 799).bind fun t2 => (if t2 = true then (if (Int.tmod a0 2) = 1 then (some 2) else (some (-1))) else (some (-1))))) else ((impl_within.f a0 1 799).bind fun t3 => (if t3 = true then (if (Int.tmod a0 2) = 1 then (some 2) else (some (-1))) else (some (-1)))))))
def impl_isOld.f (a0 : Int) : Option (Bool) := ((impl_RefKind.f a0).bind fun t1 => (some (decide (t1 = 1))))
def impl_isData.f (a0_0 : Int) (a0_1 : Int) (a0_2 : Int) (a0_3 : List ByteArray) (a1 : Int) : Option (Bool) := ((impl_within.f a1 (wrap64 (4 + a0_1)) (wrap64 (a0_0 - 1))).bind fun t1 => (some t1))
def impl_isDataRef.f (a0_0 : Int) (a0_1 : Int) (a0_2 : Int) (a0_3 : List ByteArray) (a1 : Int) : Option (Bool) := (if a1 = 0 then (some true) else ((impl_isOld.f a1).bind fun t1 => (if t1 = true then ((impl_isData.f a0_0 a0_1 a0_2 a0_3 (wrap64 (Int.tdiv a1 2))).bind fun t2 => (some t2)) else (some false))))
def impl_RootsOf_1.f (a0 : Int) (a1 : Int × Int × Int × List ByteArray) : Option (Bool) := ((impl_isDataRef.f a1.1 a1.2.1 a1.2.2.1 a1.2.2.2 a0).bind fun t1 => (some (!t1)))
def slices_IndexFunc_int64_at_impl_RootsOf_1.p6 : Nat → List Int → Int × Int × Int × List ByteArray → Int → Int → Option (Int)
 | 0, _, _, _, _ => none
 | k + 1, x0, x1_0, x7, x8 => (if x8 < x7 then (if 0 ≤ x8 then (if x8 < (x0.length : Int) then ((impl_RootsOf_1.f (rd x0 x8) x1_0).bind fun t1 => (if t1 = true then (some x8) else (slices_IndexFunc_int64_at_impl_RootsOf_1.p6 k x0 x1_0 x7 (wrap64 (x8 + 1))))) else none) else none) else (some (-1)))
def slices_IndexFunc_int64_at_impl_RootsOf_1.f (k : Nat) (a0 : List Int) (a1_0 : Int × Int × Int × List ByteArray) : Option (Int) := (slices_IndexFunc_int64_at_impl_RootsOf_1.p6 k a0 a1_0 (a0.length : Int) 0)
def slices_ContainsFunc_int64_at_impl_RootsOf_1.f (k : Nat) (a0 : List Int) (a1_0 : Int × Int × Int × List ByteArray) : Option (Bool) := ((slices_IndexFunc_int64_at_impl_RootsOf_1.f k a0 a1_0).bind fun t1 => (some (decide (t1 ≥ 0))))
def impl_RootsOf.f (k : Nat) (a0_0 : Int) (a0_1 : Int) (a0_2 : Int) (a0_3 : List ByteArray) (a1 : ByteArray) : Option (List Int × Bool) := ((impl_isImage.f k a0_0 a0_1 a0_2 a0_3 a1).bind fun t1 => (if t1 = true then ((impl_wordsOf.f k a1 2).bind fun t2 => ((slices_ContainsFunc_int64_at_impl_RootsOf_1.f k t2 (a0_0, (a0_1, (a0_2, a0_3)))).bind fun t3 => (if t3 = true then (some (([] : List Int), false)) else (some (t2, true))))) else (some (([] : List Int), false))))
def impl_walked_1.f (a0 : Int) (a1 : Int × Int × Int × List ByteArray) : Option (Bool) := ((impl_isDataRef.f a1.1 a1.2.1 a1.2.2.1 a1.2.2.2 a0).bind fun t1 => (some (!t1)))
def slices_IndexFunc_int64_at_impl_walked_1.p6 : Nat → List Int → Int × Int × Int × List ByteArray → Int → Int → Option (Int)
 | 0, _, _, _, _ => none
 | k + 1, x0, x1_0, x7, x8 => (if x8 < x7 then (if 0 ≤ x8 then (if x8 < (x0.length : Int) then ((impl_walked_1.f (rd x0 x8) x1_0).bind fun t1 => (if t1 = true then (some x8) else (slices_IndexFunc_int64_at_impl_walked_1.p6 k x0 x1_0 x7 (wrap64 (x8 + 1))))) else none) else none) else (some (-1)))
def slices_IndexFunc_int64_at_impl_walked_1.f (k : Nat) (a0 : List Int) (a1_0 : Int × Int × Int × List ByteArray) : Option (Int) := (slices_IndexFunc_int64_at_impl_walked_1.p6 k a0 a1_0 (a0.length : Int) 0)
def slices_ContainsFunc_int64_at_impl_walked_1.f (k : Nat) (a0 : List Int) (a1_0 : Int × Int × Int × List ByteArray) : Option (Bool) := ((slices_IndexFunc_int64_at_impl_walked_1.f k a0 a1_0).bind fun t1 => (some (decide (t1 ≥ 0))))
def impl_walked_2.f (a0 : Int) (a1_0 : (Int → Option Bool)) (a2_0 : List (Int × Int × List Int)) : Option ((Int → Option Bool) × List (Int × Int × List Int)) := (if ((a1_0 a0).getD false) = true then (some (a1_0, a2_0)) else (if a2_0.length + 1 ≤ 3518437208883 then (some ((mput a1_0 a0 true), (a2_0 ++ ([((wrap64 (Int.tdiv a0 2)), (0, []))] : List (Int × Int × List Int))))) else none))
def strings_Repeat.f (a0 : ByteArray) (a1 : Int) : Option ByteArray :=
  if 0 ≤ a1 then (if a1 ≤ 1048576 then (if a0.size ≤ 1048576 then some ⟨(Lib.repeatL a0.data.toList a1.toNat).toArray⟩ else none) else none) else none

def impl_zeros.f (a0 : Int) : Option (ByteArray) := ((strings_Repeat.f (⟨#[0]⟩ : ByteArray) a0).bind fun t1 => (some t1))
def impl_runOf.f (a0 : ByteArray) : Option (Int) := (some (wrap64 (Int.tdiv (wrap64 ((a0.size : Int) + 8)) 8)))
def impl_objectOf.p8 : Nat → ByteArray → Int → Int → List Int → Int → Int → Option (Int × List Int)
 | 0, _, _, _, _, _, _ => none
 | k + 1, x2, x6_0, x7_0, x7_1, x15, x16 => (if x16 < x15 then ((impl_wordAt.f k x2 (wrap64 (8 + (wrap64 (8 * x16))))).bind fun t1 => (if x7_1.length + 1 ≤ 17592186044416 then (impl_objectOf.p8 k x2 x6_0 x7_0 (x7_1 ++ ([t1] : List Int)) x15 (wrap64 (x16 + 1))) else none)) else (some (x7_0, x7_1)))
def impl_objectOf.f (k : Nat) (a0 : List ByteArray) (a1 : Int) (a2 : ByteArray) : Option (Int × List Int) := (if 0 ≤ a1 then (if a1 < (a0.length : Int) then (impl_objectOf.p8 k a2 0 a1 ([] : List Int) ((rdOf ByteArray.empty a0 a1).size : Int) 0) else none) else none)
def impl_ObjOk_1.f (a0 : Int) : Option (Bool) := ((impl_RefKind.f a0).bind fun t1 => (some (decide (t1 ≥ 0))))
def impl_isObject_at_impl_ObjOk_1.p14 : Nat → List ByteArray → Int → List Int → List Int → Int → Int → Option (Bool)
 | 0, _, _, _, _, _, _ => none
 | k + 1, x0, x4_0, x4_1, x29, x30, x31 => (if x31 < x30 then (if 0 ≤ x31 then (if x31 < (x29.length : Int) then (if 0 ≤ x4_0 then (if x4_0 < (x0.length : Int) then (if 0 ≤ x31 then (if x31 < ((rdOf ByteArray.empty x0 x4_0).size : Int) then (if (byteAt (rdOf ByteArray.empty x0 x4_0) x31) = 114 then ((impl_ObjOk_1.f (rd x29 x31)).bind fun t3 => (if t3 = true then (impl_isObject_at_impl_ObjOk_1.p14 k x0 x4_0 x4_1 x29 x30 (wrap64 (x31 + 1))) else (some false))) else (impl_isObject_at_impl_ObjOk_1.p14 k x0 x4_0 x4_1 x29 x30 (wrap64 (x31 + 1)))) else none) else none) else none) else none) else none) else none) else (some true))
def impl_isObject_at_impl_ObjOk_1.f (k : Nat) (a0 : List ByteArray) (a1_0 : Int) (a1_1 : List Int) : Option (Bool) := ((impl_size_string.f a0).bind fun t1 => ((impl_within.f a1_0 0 (wrap64 (t1 - 1))).bind fun t2 => (if t2 = true then (if 0 ≤ a1_0 then (if a1_0 < (a0.length : Int) then (if (a1_1.length : Int) = ((rdOf ByteArray.empty a0 a1_0).size : Int) then (impl_isObject_at_impl_ObjOk_1.p14 k a0 a1_0 a1_1 a1_1 (a1_1.length : Int) 0) else (some false)) else none) else none) else (some false))))
def impl_ObjOk.f (k : Nat) (a0 : List ByteArray) (a1_0 : Int) (a1_1 : List Int) : Option (Bool) := ((impl_TypesOk.f k a0).bind fun t1 => (if t1 = true then ((impl_isObject_at_impl_ObjOk_1.f k a0 a1_0 a1_1).bind fun t2 => (some t2)) else (some false)))
def impl_bigBytes.p8 : Nat → Int → Int → List Int → Int → Int → Option (ByteArray)
 | 0, _, _, _, _, _ => none
 | k + 1, x0, x1, x5, x10, x11 => (if x11 < x10 then (if 0 ≤ (wrap64 ((wrap64 (x1 - 1)) - x11)) then (if (wrap64 ((wrap64 (x1 - 1)) - x11)) < (x5.length : Int) then (impl_bigBytes.p8 k (shrA .u64 x0 8) x1 (x5.set (wrap64 ((wrap64 (x1 - 1)) - x11)).toNat (x0 % 256)) x10 (wrap64 (x11 + 1))) else none) else none) else (some (strOf x5)))
def impl_bigBytes.f (k : Nat) (a0 : Int) (a1 : Int) : Option (ByteArray) := (if 0 ≤ a1 then (if a1.toNat ≤ 281474976710656 then (impl_bigBytes.p8 k a0 a1 (List.replicate a1.toNat (0 : Int)) ((List.replicate a1.toNat (0 : Int)).length : Int) 0) else none) else none)
def impl_WordBytes.f (k : Nat) (a0 : Int) : Option (ByteArray) := ((impl_bigBytes.f k (IntKind.wrap .u64 a0) 8).bind fun t1 => (some t1))
def impl_objectBytes.p8 : Nat → List ByteArray → Int → List Int → ByteArray → List Int → Int → Int → Option (ByteArray)
 | 0, _, _, _, _, _, _, _ => none
 | k + 1, x0, x3_0, x3_1, x5, x13, x14, x15 => (if x15 < x14 then (if 0 ≤ x15 then (if x15 < (x13.length : Int) then ((impl_WordBytes.f k (rd x13 x15)).bind fun t2 => (if x5.size + t2.size ≤ 9223372036854775807 then (impl_objectBytes.p8 k x0 x3_0 x3_1 (x5 ++ t2) x13 x14 (wrap64 (x15 + 1))) else none)) else none) else none) else (if 0 ≤ x3_0 then (if x3_0 < (x0.length : Int) then ((impl_runOf.f (rdOf ByteArray.empty x0 x3_0)).bind fun t3 => ((impl_zeros.f (wrap64 ((wrap64 (64 * t3)) - (x5.size : Int)))).bind fun t4 => (if x5.size + t4.size ≤ 9223372036854775807 then (some (x5 ++ t4)) else none))) else none) else none))
def impl_objectBytes.f (k : Nat) (a0 : List ByteArray) (a1_0 : Int) (a1_1 : List Int) : Option (ByteArray) := ((impl_WordBytes.f k (wrap64 (a1_0 + 1))).bind fun t1 => (impl_objectBytes.p8 k a0 a1_0 a1_1 t1 a1_1 (a1_1.length : Int) 0))
def impl_ObjectBytes.f (k : Nat) (a0 : List ByteArray) (a1_0 : Int) (a1_1 : List Int) : Option (ByteArray) := ((impl_ObjOk.f k a0 a1_0 a1_1).bind fun t1 => (if t1 = true then ((impl_objectBytes.f k a0 a1_0 a1_1).bind fun t2 => (some t2)) else (some (⟨#[]⟩ : ByteArray))))
mutual
def impl_ReadObject.p5 : Nat → List ByteArray → ByteArray → Int → Bool → Option (Int × List Int × Bool)
 | 0, _, _, _, _ => none
 | k + 1, x0, x1, x4_0, x15 => (if x15 = true then (some (0, ([] : List Int), false)) else ((impl_wordAt.f k x1 0).bind fun t4 => ((impl_size_string.f x0).bind fun t5 => ((impl_within.f t4 1 t5).bind fun t6 => (if t6 = true then (if 0 ≤ (wrap64 (t4 - 1)) then (if (wrap64 (t4 - 1)) < (x0.length : Int) then ((impl_runOf.f (rdOf ByteArray.empty x0 (wrap64 (t4 - 1)))).bind fun t7 => (impl_ReadObject.p15 k x0 x1 x4_0 t4 (!decide ((x1.size : Int) = (wrap64 (64 * t7)))))) else none) else none) else (impl_ReadObject.p15 k x0 x1 x4_0 t4 true))))))
def impl_ReadObject.p15 : Nat → List ByteArray → ByteArray → Int → Int → Bool → Option (Int × List Int × Bool)
 | 0, _, _, _, _, _ => none
 | k + 1, x0, x1, x4_0, x6, x35 => (if x35 = true then (some (0, ([] : List Int), false)) else ((impl_objectOf.f k x0 (wrap64 (x6 - 1)) x1).bind fun t2 => ((impl_ObjectBytes.f k x0 t2.1 t2.2).bind fun t3 => (if t3.toList = x1.toList then (some (t2.1, t2.2, true)) else (some (0, ([] : List Int), false))))))
end
def impl_ReadObject.f (k : Nat) (a0 : List ByteArray) (a1 : ByteArray) : Option (Int × List Int × Bool) := ((impl_TypesOk.f k a0).bind fun t1 => (if t1 = true then (impl_ReadObject.p5 k a0 a1 0 (decide ((a1.size : Int) < 8))) else (impl_ReadObject.p5 k a0 a1 0 true)))
def impl_oldObject_1.f (a0 : Int) (a1 : Int × Int × Int × List ByteArray) : Option (Bool) := ((impl_isDataRef.f a1.1 a1.2.1 a1.2.2.1 a1.2.2.2 a0).bind fun t1 => (some t1))
def impl_isObject_at_impl_oldObject_1.p14 : Nat → List ByteArray → Int × Int × Int × List ByteArray → Int → List Int → List Int → Int → Int → Option (Bool)
 | 0, _, _, _, _, _, _, _ => none
 | k + 1, x0, x2_0, x4_0, x4_1, x29, x30, x31 => (if x31 < x30 then (if 0 ≤ x31 then (if x31 < (x29.length : Int) then (if 0 ≤ x4_0 then (if x4_0 < (x0.length : Int) then (if 0 ≤ x31 then (if x31 < ((rdOf ByteArray.empty x0 x4_0).size : Int) then (if (byteAt (rdOf ByteArray.empty x0 x4_0) x31) = 114 then ((impl_oldObject_1.f (rd x29 x31) x2_0).bind fun t3 => (if t3 = true then (impl_isObject_at_impl_oldObject_1.p14 k x0 x2_0 x4_0 x4_1 x29 x30 (wrap64 (x31 + 1))) else (some false))) else (impl_isObject_at_impl_oldObject_1.p14 k x0 x2_0 x4_0 x4_1 x29 x30 (wrap64 (x31 + 1)))) else none) else none) else none) else none) else none) else none) else (some true))
def impl_isObject_at_impl_oldObject_1.f (k : Nat) (a0 : List ByteArray) (a1_0 : Int) (a1_1 : List Int) (a2_0 : Int × Int × Int × List ByteArray) : Option (Bool) := ((impl_size_string.f a0).bind fun t1 => ((impl_within.f a1_0 0 (wrap64 (t1 - 1))).bind fun t2 => (if t2 = true then (if 0 ≤ a1_0 then (if a1_0 < (a0.length : Int) then (if (a1_1.length : Int) = ((rdOf ByteArray.empty a0 a1_0).size : Int) then (impl_isObject_at_impl_oldObject_1.p14 k a0 a2_0 a1_0 a1_1 a1_1 (a1_1.length : Int) 0) else (some false)) else none) else none) else (some false))))
def impl_oldObject.p15 : Nat → ByteArray → Int → Int → Int → Int → List ByteArray → Int → Int → Bool → Option (Int × List Int × Bool)
 | 0, _, _, _, _, _, _, _, _, _ => none
 | k + 1, x1, x2, x3_0, x3_1, x3_2, x3_3, x6_0, x8, x39 => (if x39 = true then (some (0, ([] : List Int), false)) else (if 0 ≤ (wrap64 (x8 - 1)) then (if (wrap64 (x8 - 1)) < (x3_3.length : Int) then ((impl_runOf.f (rdOf ByteArray.empty x3_3 (wrap64 (x8 - 1)))).bind fun t6 => (if 0 ≤ (wrap64 (64 * (wrap64 (x2 + t6)))) then (if (wrap64 (64 * (wrap64 (x2 + t6)))) ≤ (x1.size : Int) then (if 0 ≤ (wrap64 (64 * x2)) then (if (wrap64 (64 * x2)) ≤ (wrap64 (64 * (wrap64 (x2 + t6)))) then ((impl_ReadObject.f k x3_3 (x1.extract (wrap64 (64 * x2)).toNat (wrap64 (64 * (wrap64 (x2 + t6)))).toNat)).bind fun t7 => (if t7.2.2 = true then ((impl_isObject_at_impl_oldObject_1.f k x3_3 t7.1 t7.2.1 (x3_0, (x3_1, (x3_2, x3_3)))).bind fun t8 => (if t8 = true then (some (t7.1, t7.2.1, true)) else (some (0, ([] : List Int), false)))) else (some (0, ([] : List Int), false)))) else none) else none) else none) else none)) else none) else none))
def impl_oldObject.f (k : Nat) (a0_0 : Int) (a0_1 : Int) (a0_2 : Int) (a0_3 : List ByteArray) (a1 : ByteArray) (a2 : Int) : Option (Int × List Int × Bool) := ((impl_isData.f a0_0 a0_1 a0_2 a0_3 a2).bind fun t1 => (if t1 = true then ((impl_wordAt.f k a1 (wrap64 (64 * a2))).bind fun t2 => ((impl_size_string.f a0_3).bind fun t3 => ((impl_within.f t2 1 t3).bind fun t4 => (if t4 = true then (if 0 ≤ (wrap64 (t2 - 1)) then (if (wrap64 (t2 - 1)) < (a0_3.length : Int) then ((impl_runOf.f (rdOf ByteArray.empty a0_3 (wrap64 (t2 - 1)))).bind fun t5 => (impl_oldObject.p15 k a1 a2 a0_0 a0_1 a0_2 a0_3 0 t2 (decide ((wrap64 (a2 + t5)) > a0_0)))) else none) else none) else (impl_oldObject.p15 k a1 a2 a0_0 a0_1 a0_2 a0_3 0 t2 true))))) else (some (0, ([] : List Int), false))))
def impl_isMap.f (a0 : ByteArray) : Option (Bool) := (if (a0.size : Int) = 64 then (if 16 ≤ (a0.size : Int) then ((impl_zeros.f 48).bind fun t1 => (some (decide ((a0.extract 16 (a0.size : Int).toNat).toList = t1.toList)))) else none) else (some false))
def impl_isTaken.f (a0 : ByteArray) (a1 : Int) : Option (Bool) := (if 0 ≤ (wrap64 (Int.tdiv a1 8)) then (if (wrap64 (Int.tdiv a1 8)) < (a0.size : Int) then (if (Int.tmod a1 8) < 0 then none else (some (decide ((andA .u8 (shrA .u8 (byteAt a0 (wrap64 (Int.tdiv a1 8))) (Int.tmod a1 8)) 1) = 1)))) else none) else none)
def impl_isRun.p14 : Nat → ByteArray → Int → Int → Bool → Int → Option (Bool)
 | 0, _, _, _, _, _ => none
 | k + 1, x0, x1, x2, x3, x9 => (if x9 < (wrap64 (x1 + x2)) then ((impl_isTaken.f x0 x9).bind fun t4 => (if t4 = x3 then (impl_isRun.p14 k x0 x1 x2 x3 (wrap64 (x9 + 1))) else (some false))) else (some true))
def impl_isRun.f (k : Nat) (a0 : ByteArray) (a1 : Int) (a2 : Int) (a3 : Bool) : Option (Bool) := ((impl_isMap.f a0).bind fun t1 => (if t1 = true then ((impl_within.f a2 1 128).bind fun t2 => (if t2 = true then ((impl_within.f a1 0 (wrap64 (128 - a2))).bind fun t3 => (if t3 = true then (impl_isRun.p14 k a0 a1 a2 a3 a1) else (some false))) else (some false))) else (some false)))
mutual
def impl_changedMap.p8 : Nat → Int → Int → Bool → List Int → Int → Option (ByteArray)
 | 0, _, _, _, _, _ => none
 | k + 1, x1, x2, x3, x9, x10 => (if x10 < (wrap64 (x1 + x2)) then (if 0 ≤ (wrap64 (Int.tdiv x10 8)) then (if (wrap64 (Int.tdiv x10 8)) < (x9.length : Int) then (if (Int.tmod x10 8) < 0 then none else (if 0 ≤ (wrap64 (Int.tdiv x10 8)) then (if (wrap64 (Int.tdiv x10 8)) < (x9.length : Int) then (if x3 = true then (if 0 ≤ (wrap64 (Int.tdiv x10 8)) then (if (wrap64 (Int.tdiv x10 8)) < ((x9.set (wrap64 (Int.tdiv x10 8)).toNat (andNotA .u8 (rd x9 (wrap64 (Int.tdiv x10 8))) (shlA .u8 1 (Int.tmod x10 8)))).length : Int) then (if (Int.tmod x10 8) < 0 then none else (if 0 ≤ (wrap64 (Int.tdiv x10 8)) then (if (wrap64 (Int.tdiv x10 8)) < ((x9.set (wrap64 (Int.tdiv x10 8)).toNat (andNotA .u8 (rd x9 (wrap64 (Int.tdiv x10 8))) (shlA .u8 1 (Int.tmod x10 8)))).length : Int) then (impl_changedMap.p24 k x1 x2 x3 ((x9.set (wrap64 (Int.tdiv x10 8)).toNat (andNotA .u8 (rd x9 (wrap64 (Int.tdiv x10 8))) (shlA .u8 1 (Int.tmod x10 8)))).set (wrap64 (Int.tdiv x10 8)).toNat (orA .u8 (rd (x9.set (wrap64 (Int.tdiv x10 8)).toNat (andNotA .u8 (rd x9 (wrap64 (Int.tdiv x10 8))) (shlA .u8 1 (Int.tmod x10 8)))) (wrap64 (Int.tdiv x10 8))) (shlA .u8 1 (Int.tmod x10 8)))) x10) else none) else none)) else none) else none) else (impl_changedMap.p24 k x1 x2 x3 (x9.set (wrap64 (Int.tdiv x10 8)).toNat (andNotA .u8 (rd x9 (wrap64 (Int.tdiv x10 8))) (shlA .u8 1 (Int.tmod x10 8)))) x10)) else none) else none)) else none) else none) else (some (strOf x9)))
def impl_changedMap.p24 : Nat → Int → Int → Bool → List Int → Int → Option (ByteArray)
 | 0, _, _, _, _, _ => none
 | k + 1, x1, x2, x3, x9, x10 => (impl_changedMap.p8 k x1 x2 x3 x9 (wrap64 (x10 + 1)))
end
def impl_changedMap.f (k : Nat) (a0 : ByteArray) (a1 : Int) (a2 : Int) (a3 : Bool) : Option (ByteArray) := (impl_changedMap.p8 k a1 a2 a3 (numsOf a0) a1)
def impl_TakeRun.f (k : Nat) (a0 : ByteArray) (a1 : Int) (a2 : Int) : Option (ByteArray × Bool) := ((impl_isRun.f k a0 a1 a2 false).bind fun t1 => (if t1 = true then ((impl_changedMap.f k a0 a1 a2 true).bind fun t2 => (some (t2, true))) else (some ((⟨#[]⟩ : ByteArray), false))))
def impl_walked_2_q.f (a0 : Int) (a1_0 : (Int → Option Bool)) (a2_0q : List Int) (a2_0j : Nat) (a2_0 : List (Int × Int × List Int)) : Option ((Int → Option Bool) × Nat × List (Int × Int × List Int) × List Int) := (if ((a1_0 a0).getD false) = true then (some (a1_0, a2_0j, a2_0, a2_0q)) else (if a2_0.length + 1 ≤ 3518437208883 then (some ((mput a1_0 a0 true), a2_0j, (a2_0 ++ ([((wrap64 (Int.tdiv a0 2)), (0, []))] : List (Int × Int × List Int))), a2_0q)) else none))
mutual
def impl_walked.p5 : Nat → ByteArray → List Int → Int → Int → Int → List ByteArray → Bool → Option (List (Int × Int × List Int) × ByteArray × Bool)
 | 0, _, _, _, _, _, _, _ => none
 | k + 1, x1, x2, x3_0, x3_1, x3_2, x3_3, x28 => (if x28 = true then (some (([] : List (Int × Int × List Int)), (⟨#[]⟩ : ByteArray), false)) else (impl_walked.p20 k x1 x3_0 x3_1 x3_2 x3_3 ([] : List (Int × Int × List Int)) (mput (fun (_ : Int) => (none : Option Bool)) 0 true) x2 (x2.length : Int) 0))
def impl_walked.p20 : Nat → ByteArray → Int → Int → Int → List ByteArray → List (Int × Int × List Int) → (Int → Option Bool) → List Int → Int → Int → Option (List (Int × Int × List Int) × ByteArray × Bool)
 | 0, _, _, _, _, _, _, _, _, _, _ => none
 | k + 1, x1, x3_0, x3_1, x3_2, x3_3, x9_0, x11_0_0, x33, x34, x35 => (if x35 < x34 then (if 0 ≤ x35 then (if x35 < (x33.length : Int) then ((impl_walked_2.f (rd x33 x35) x11_0_0 x9_0).bind fun t3 => (impl_walked.p20 k x1 x3_0 x3_1 x3_2 x3_3 t3.2 t3.1 x33 x34 (wrap64 (x35 + 1)))) else none) else none) else ((impl_zeros.f 64).bind fun t4 => (impl_walked.p39 k x1 x3_0 x3_1 x3_2 x3_3 x9_0 x11_0_0 t4 0)))
def impl_walked.p39 : Nat → ByteArray → Int → Int → Int → List ByteArray → List (Int × Int × List Int) → (Int → Option Bool) → ByteArray → Int → Option (List (Int × Int × List Int) × ByteArray × Bool)
 | 0, _, _, _, _, _, _, _, _, _ => none
 | k + 1, x1, x3_0, x3_1, x3_2, x3_3, x9_0, x11_0_0, x14, x15 => (if x15 < (x9_0.length : Int) then (if 0 ≤ x15 then (if x15 < (x9_0.length : Int) then ((impl_oldObject.f k x3_0 x3_1 x3_2 x3_3 x1 (rdOf (0, (0, [])) x9_0 x15).1).bind fun t5 => (if t5.2.2 = true then (if 0 ≤ x15 then (if x15 < (x9_0.length : Int) then (if 0 ≤ x15 then (if x15 < ((x9_0.set x15.toNat ((rdOf (0, (0, [])) x9_0 x15).1, (t5.1, t5.2.1))).length : Int) then (if 0 ≤ t5.1 then (if t5.1 < (x3_3.length : Int) then ((impl_runOf.f (rdOf ByteArray.empty x3_3 t5.1)).bind fun t6 => ((impl_TakeRun.f k x14 (rdOf (0, (0, [])) (x9_0.set x15.toNat ((rdOf (0, (0, [])) x9_0 x15).1, (t5.1, t5.2.1))) x15).1 t6).bind fun t7 => (if t7.2 = true then (impl_walked.p73 k x1 x3_0 x3_1 x3_2 x3_3 t5.2.1 x15.toNat (x9_0.set x15.toNat ((rdOf (0, (0, [])) x9_0 x15).1, (t5.1, t5.2.1))) x11_0_0 t7.1 x15 t5.1 (t5.2.1.length : Int) 0) else (some (([] : List (Int × Int × List Int)), (⟨#[]⟩ : ByteArray), false))))) else none) else none) else none) else none) else none) else none) else (some (([] : List (Int × Int × List Int)), (⟨#[]⟩ : ByteArray), false)))) else none) else none) else (some (x9_0, x14, true)))
def impl_walked.p73 : Nat → ByteArray → Int → Int → Int → List ByteArray → List Int → Nat → List (Int × Int × List Int) → (Int → Option Bool) → ByteArray → Int → Int → Int → Int → Option (List (Int × Int × List Int) × ByteArray × Bool)
 | 0, _, _, _, _, _, _, _, _, _, _, _, _, _, _ => none
 | k + 1, x1, x3_0, x3_1, x3_2, x3_3, x9_0q, x9_0j, x9_0, x11_0_0, x14, x15, x16_0, x89, x90 => (if x90 < x89 then (if 0 ≤ x90 then (if x90 < (x9_0q.length : Int) then (if 0 ≤ x16_0 then (if x16_0 < (x3_3.length : Int) then (if 0 ≤ x90 then (if x90 < ((rdOf ByteArray.empty x3_3 x16_0).size : Int) then (if (byteAt (rdOf ByteArray.empty x3_3 x16_0) x90) = 114 then ((impl_walked_2_q.f (rd x9_0q x90) x11_0_0 x9_0q x9_0j x9_0).bind fun t8 => (impl_walked.p73 k x1 x3_0 x3_1 x3_2 x3_3 t8.2.2.2 t8.2.1 t8.2.2.1 t8.1 x14 x15 x16_0 x89 (wrap64 (x90 + 1)))) else (impl_walked.p73 k x1 x3_0 x3_1 x3_2 x3_3 x9_0q x9_0j x9_0 x11_0_0 x14 x15 x16_0 x89 (wrap64 (x90 + 1)))) else none) else none) else none) else none) else none) else none) else (impl_walked.p39 k x1 x3_0 x3_1 x3_2 x3_3 (x9_0.set x9_0j ((x9_0.getD x9_0j (0, (0, []))).1, ((x9_0.getD x9_0j (0, (0, []))).2.1, x9_0q))) x11_0_0 x14 (wrap64 (x15 + 1))))
end
def impl_walked.f (k : Nat) (a0_0 : Int) (a0_1 : Int) (a0_2 : Int) (a0_3 : List ByteArray) (a1 : ByteArray) (a2 : List Int) : Option (List (Int × Int × List Int) × ByteArray × Bool) := ((impl_isImage.f k a0_0 a0_1 a0_2 a0_3 a1).bind fun t1 => (if t1 = true then ((slices_ContainsFunc_int64_at_impl_walked_1.f k a2 (a0_0, (a0_1, (a0_2, a0_3)))).bind fun t2 => (impl_walked.p5 k a1 a2 a0_0 a0_1 a0_2 a0_3 t2)) else (impl_walked.p5 k a1 a2 a0_0 a0_1 a0_2 a0_3 true)))
def impl_OldRef.f (a0 : Int) : Option (Int) := ((impl_within.f a0 1 127).bind fun t1 => (if t1 = true then (some (wrap64 (2 * a0))) else (some 0)))
mutual
def impl_DurableOf.p28 : Nat → Int → Int → Int → List ByteArray → List Int → List (Int × Int × List Int) → (Int → Option Int) → Int → Int → Option (List Int × List (Int × List Int) × Bool)
 | 0, _, _, _, _, _, _, _, _, _ => none
 | k + 1, x2_0, x2_1, x2_2, x2_3, x6, x8, x10, x42, x43 => (if x43 < x42 then (if 0 ≤ x43 then (if x43 < (x8.length : Int) then ((impl_OldRef.f (rdOf (0, (0, [])) x8 x43).1).bind fun t3 => (impl_DurableOf.p28 k x2_0 x2_1 x2_2 x2_3 x6 (x8.set x43.toNat (rdOf (0, (0, [])) x8 x43)) (mput x10 t3 (wrap64 (x43 + 1))) x42 (wrap64 (x43 + 1)))) else none) else none) else (impl_DurableOf.p47 k x2_0 x2_1 x2_2 x2_3 x8 x10 ([] : List Int) x6 (x6.length : Int) 0))
def impl_DurableOf.p47 : Nat → Int → Int → Int → List ByteArray → List (Int × Int × List Int) → (Int → Option Int) → List Int → List Int → Int → Int → Option (List Int × List (Int × List Int) × Bool)
 | 0, _, _, _, _, _, _, _, _, _, _ => none
 | k + 1, x2_0, x2_1, x2_2, x2_3, x8, x10, x13_0, x56, x57, x58 => (if x58 < x57 then (if 0 ≤ x58 then (if x58 < (x56.length : Int) then (if x13_0.length + 1 ≤ 17592186044416 then (impl_DurableOf.p47 k x2_0 x2_1 x2_2 x2_3 x8 x10 (x13_0 ++ ([((x10 (rd x56 x58)).getD 0)] : List Int)) x56 x57 (wrap64 (x58 + 1))) else none) else none) else none) else (impl_DurableOf.p64 k x2_0 x2_1 x2_2 x2_3 x10 x13_0 ([] : List (Int × List Int)) 0 x8 (x8.length : Int) 0))
def impl_DurableOf.p64 : Nat → Int → Int → Int → List ByteArray → (Int → Option Int) → List Int → List (Int × List Int) → Nat → List (Int × Int × List Int) → Int → Int → Option (List Int × List (Int × List Int) × Bool)
 | 0, _, _, _, _, _, _, _, _, _, _, _ => none
 | k + 1, x2_0, x2_1, x2_2, x2_3, x10, x13_0, x13_1, x71f, x71, x72, x73 => (if x73 < x72 then (if 0 ≤ x73 then (if x73 < (x71.length : Int) then (if x71f ≤ x73.toNat then (impl_DurableOf.p79 k x2_0 x2_1 x2_2 x2_3 x10 x13_0 x13_1 (rdOf (0, (0, [])) x71 x73).1 (rdOf (0, (0, [])) x71 x73).2.1 (rdOf (0, (0, [])) x71 x73).2.2 (x73.toNat + 1) x71 x72 x73 ((rdOf (0, (0, [])) x71 x73).2.2.length : Int) 0) else none) else none) else none) else (some (x13_0, x13_1, true)))
def impl_DurableOf.p79 : Nat → Int → Int → Int → List ByteArray → (Int → Option Int) → List Int → List (Int × List Int) → Int → Int → List Int → Nat → List (Int × Int × List Int) → Int → Int → Int → Int → Option (List Int × List (Int × List Int) × Bool)
 | 0, _, _, _, _, _, _, _, _, _, _, _, _, _, _, _, _ => none
 | k + 1, x2_0, x2_1, x2_2, x2_3, x10, x13_0, x13_1, x17_0, x17_1, x17_2, x71f, x71, x72, x73, x80, x81 => (if x81 < x80 then (if 0 ≤ x81 then (if x81 < (x17_2.length : Int) then (if 0 ≤ x17_1 then (if x17_1 < (x2_3.length : Int) then (if 0 ≤ x81 then (if x81 < ((rdOf ByteArray.empty x2_3 x17_1).size : Int) then (if (byteAt (rdOf ByteArray.empty x2_3 x17_1) x81) = 114 then (if 0 ≤ x81 then (if x81 < (x17_2.length : Int) then (impl_DurableOf.p79 k x2_0 x2_1 x2_2 x2_3 x10 x13_0 x13_1 x17_0 x17_1 (x17_2.set x81.toNat ((x10 (rd x17_2 x81)).getD 0)) x71f x71 x72 x73 x80 (wrap64 (x81 + 1))) else none) else none) else (impl_DurableOf.p79 k x2_0 x2_1 x2_2 x2_3 x10 x13_0 x13_1 x17_0 x17_1 x17_2 x71f x71 x72 x73 x80 (wrap64 (x81 + 1)))) else none) else none) else none) else none) else none) else none) else (if x13_1.length + 1 ≤ 4398046511104 then (impl_DurableOf.p64 k x2_0 x2_1 x2_2 x2_3 x10 x13_0 ((x13_1 ++ ([(x17_1, x17_2)] : List (Int × List Int))).set x13_1.length (((x13_1 ++ ([(x17_1, x17_2)] : List (Int × List Int))).getD x13_1.length (0, [])).1, x17_2)) x71f x71 x72 (wrap64 (x73 + 1))) else none))
end
def impl_DurableOf.f (k : Nat) (a0_0 : Int) (a0_1 : Int) (a0_2 : Int) (a0_3 : List ByteArray) (a1 : ByteArray) : Option (List Int × List (Int × List Int) × Bool) := ((impl_RootsOf.f k a0_0 a0_1 a0_2 a0_3 a1).bind fun t1 => (if t1.2 = true then ((impl_walked.f k a0_0 a0_1 a0_2 a0_3 a1 t1.1).bind fun t2 => (if t2.2.2 = true then (impl_DurableOf.p28 k a0_0 a0_1 a0_2 a0_3 t1.1 t2.1 (fun (_ : Int) => (none : Option Int)) (t2.1.length : Int) 0) else (some (([] : List Int), ([] : List (Int × List Int)), false)))) else (some (([] : List Int), ([] : List (Int × List Int)), false))))
def laws_eqInt64S.p14 : Nat → List Int → List Int → Int → Option (Bool)
 | 0, _, _, _ => none
 | k + 1, x0, x1, x5 => (if x5 < (x0.length : Int) then (if 0 ≤ x5 then (if x5 < (x0.length : Int) then (if 0 ≤ x5 then (if x5 < (x1.length : Int) then (if (rd x0 x5) = (rd x1 x5) then (laws_eqInt64S.p14 k x0 x1 (wrap64 (x5 + 1))) else (some false)) else none) else none) else none) else none) else (some true))
def laws_eqInt64S.f (k : Nat) (a0 : List Int) (a1 : List Int) : Option (Bool) := (if (a0.length : Int) = (a1.length : Int) then (laws_eqInt64S.p14 k a0 a1 0) else (some false))
def laws_eqObj.f (k : Nat) (a0_0 : Int) (a0_1 : List Int) (a1_0 : Int) (a1_1 : List Int) : Option (Bool) := (if a0_0 = a1_0 then ((laws_eqInt64S.f k a0_1 a1_1).bind fun t1 => (if t1 = true then (some true) else (some false))) else (some false))
def laws_eqObjS.p14 : Nat → List (Int × List Int) → List (Int × List Int) → Int → Option (Bool)
 | 0, _, _, _ => none
 | k + 1, x0, x1, x5 => (if x5 < (x0.length : Int) then (if 0 ≤ x5 then (if x5 < (x0.length : Int) then (if 0 ≤ x5 then (if x5 < (x1.length : Int) then ((laws_eqObj.f k (rdOf (0, []) x0 x5).1 (rdOf (0, []) x0 x5).2 (rdOf (0, []) x1 x5).1 (rdOf (0, []) x1 x5).2).bind fun t1 => (if t1 = true then (laws_eqObjS.p14 k x0 x1 (wrap64 (x5 + 1))) else (some false))) else none) else none) else none) else none) else (some true))
def laws_eqObjS.f (k : Nat) (a0 : List (Int × List Int)) (a1 : List (Int × List Int)) : Option (Bool) := (if (a0.length : Int) = (a1.length : Int) then (laws_eqObjS.p14 k a0 a1 0) else (some false))
def laws_eqGraph.f (k : Nat) (a0_0 : List Int) (a0_1 : List (Int × List Int)) (a1_0 : List Int) (a1_1 : List (Int × List Int)) : Option (Bool) := ((laws_eqInt64S.f k a0_0 a1_0).bind fun t1 => (if t1 = true then ((laws_eqObjS.f k a0_1 a1_1).bind fun t2 => (if t2 = true then (some true) else (some false))) else (some false)))
def laws_eqStringS.p14 : Nat → List ByteArray → List ByteArray → Int → Option (Bool)
 | 0, _, _, _ => none
 | k + 1, x0, x1, x5 => (if x5 < (x0.length : Int) then (if 0 ≤ x5 then (if x5 < (x0.length : Int) then (if 0 ≤ x5 then (if x5 < (x1.length : Int) then (if (rdOf ByteArray.empty x0 x5).toList = (rdOf ByteArray.empty x1 x5).toList then (laws_eqStringS.p14 k x0 x1 (wrap64 (x5 + 1))) else (some false)) else none) else none) else none) else none) else (some true))
def laws_eqStringS.f (k : Nat) (a0 : List ByteArray) (a1 : List ByteArray) : Option (Bool) := (if (a0.length : Int) = (a1.length : Int) then (laws_eqStringS.p14 k a0 a1 0) else (some false))
def laws_eqConfig.f (k : Nat) (a0_0 : Int) (a0_1 : Int) (a0_2 : Int) (a0_3 : List ByteArray) (a1_0 : Int) (a1_1 : Int) (a1_2 : Int) (a1_3 : List ByteArray) : Option (Bool) := (if a0_0 = a1_0 then (if a0_1 = a1_1 then (if a0_2 = a1_2 then ((laws_eqStringS.f k a0_3 a1_3).bind fun t1 => (if t1 = true then (some true) else (some false))) else (some false)) else (some false)) else (some false))
def laws_markText.p14 : Nat → Int → ByteArray → Option (ByteArray)
 | 0, _, _ => none
 | k + 1, x0, x3 => (if x0 > 0 then (if (strOf ([((wrap64 (48 + (Int.tmod x0 10))) % 256)] : List Int)).size + x3.size ≤ 9223372036854775807 then (laws_markText.p14 k (wrap64 (Int.tdiv x0 10)) ((strOf ([((wrap64 (48 + (Int.tmod x0 10))) % 256)] : List Int)) ++ x3)) else none) else (if (⟨#[109]⟩ : ByteArray).size + x3.size ≤ 9223372036854775807 then (some ((⟨#[109]⟩ : ByteArray) ++ x3)) else none))
def laws_markText.f (k : Nat) (a0 : Int) : Option (ByteArray) := (if a0 ≤ 0 then (some (⟨#[109, 48]⟩ : ByteArray)) else (laws_markText.p14 k a0 (⟨#[]⟩ : ByteArray)))
def laws_markStringS.p6 : Nat → List ByteArray → Int → Int → Option (List ByteArray × Int)
 | 0, _, _, _ => none
 | k + 1, h0, x1, x5 => (if x5 < (h0.length : Int) then ((laws_markText.f k x1).bind fun t1 => (if 0 ≤ x5 then (if x5 < (h0.length : Int) then (laws_markStringS.p6 k (h0.set x5.toNat t1) (wrap64 (x1 + 1)) (wrap64 (x5 + 1))) else none) else none)) else (some (h0, x1)))
def laws_markStringS.f (k : Nat) (a0 : List ByteArray) (a1 : Int) : Option (List ByteArray × Int) := (laws_markStringS.p6 k a0 a1 0)
def laws_markConfig.f (k : Nat) (a0_0 : Int) (a0_1 : Int) (a0_2 : Int) (a0_3 : List ByteArray) (a1 : Int) : Option (List ByteArray × Int) := ((laws_markStringS.f k a0_3 a1).bind fun t1 => (some (t1.1, t1.2)))
def laws_markInt64S.p6 : Nat → List Int → Int → Int → Option (List Int × Int)
 | 0, _, _, _ => none
 | k + 1, h0, x1, x5 => (if x5 < (h0.length : Int) then (if 0 ≤ x5 then (if x5 < (h0.length : Int) then (laws_markInt64S.p6 k (h0.set x5.toNat x1) (wrap64 (x1 + 1)) (wrap64 (x5 + 1))) else none) else none) else (some (h0, x1)))
def laws_markInt64S.f (k : Nat) (a0 : List Int) (a1 : Int) : Option (List Int × Int) := (laws_markInt64S.p6 k a0 a1 0)
def laws_markObjS.p6 : Nat → List (Int × List Int) → Int → Int → Option (List (Int × List Int) × Int)
 | 0, _, _, _ => none
 | k + 1, h0, x1, x5 => (if x5 < (h0.length : Int) then (if 0 ≤ x5 then (if x5 < (h0.length : Int) then (if 0 ≤ x5 then (if x5 < ((h0.set x5.toNat (x1, (rdOf (0, []) h0 x5).2)).length : Int) then ((laws_markInt64S.f k (rdOf (0, []) (h0.set x5.toNat (x1, (rdOf (0, []) h0 x5).2)) x5).2 (wrap64 (x1 + 1))).bind fun t1 => (laws_markObjS.p6 k ((h0.set x5.toNat (x1, (rdOf (0, []) h0 x5).2)).set x5.toNat ((rdOf (0, []) (h0.set x5.toNat (x1, (rdOf (0, []) h0 x5).2)) x5).1, t1.1)) t1.2 (wrap64 (x5 + 1)))) else none) else none) else none) else none) else (some (h0, x1)))
def laws_markObjS.f (k : Nat) (a0 : List (Int × List Int)) (a1 : Int) : Option (List (Int × List Int) × Int) := (laws_markObjS.p6 k a0 a1 0)
def laws_markGraph.f (k : Nat) (a0_0 : List Int) (a0_1 : List (Int × List Int)) (a1 : Int) : Option (List Int × List (Int × List Int) × Int) := ((laws_markInt64S.f k a0_0 a1).bind fun t1 => ((laws_markObjS.f k a0_1 t1.2).bind fun t2 => (some (t1.1, t2.1, t2.2))))
def laws_heldInt64S.p6 : Nat → List Int → Int → Int → Option (Int)
 | 0, _, _, _ => none
 | k + 1, x0, x1, x5 => (if x5 < (x0.length : Int) then (if 0 ≤ x5 then (if x5 < (x0.length : Int) then (if (rd x0 x5) = x1 then (laws_heldInt64S.p6 k x0 (wrap64 (x1 + 1)) (wrap64 (x5 + 1))) else (some (-1))) else none) else none) else (some x1))
def laws_heldInt64S.f (k : Nat) (a0 : List Int) (a1 : Int) : Option (Int) := (laws_heldInt64S.p6 k a0 a1 0)
def laws_heldObjS.p6 : Nat → List (Int × List Int) → Int → Int → Option (Int)
 | 0, _, _, _ => none
 | k + 1, x0, x1, x5 => (if x5 < (x0.length : Int) then (if 0 ≤ x5 then (if x5 < (x0.length : Int) then (if (rdOf (0, []) x0 x5).1 = x1 then (if 0 ≤ x5 then (if x5 < (x0.length : Int) then ((laws_heldInt64S.f k (rdOf (0, []) x0 x5).2 (wrap64 (x1 + 1))).bind fun t1 => (if t1 < 0 then (some (-1)) else (laws_heldObjS.p6 k x0 t1 (wrap64 (x5 + 1))))) else none) else none) else (some (-1))) else none) else none) else (some x1))
def laws_heldObjS.f (k : Nat) (a0 : List (Int × List Int)) (a1 : Int) : Option (Int) := (laws_heldObjS.p6 k a0 a1 0)
def laws_heldGraph.f (k : Nat) (a0_0 : List Int) (a0_1 : List (Int × List Int)) (a1 : Int) : Option (Int) := ((laws_heldInt64S.f k a0_0 a1).bind fun t1 => (if t1 < 0 then (some (-1)) else ((laws_heldObjS.f k a0_1 t1).bind fun t2 => (if t2 < 0 then (some (-1)) else (some t2)))))
mutual
def laws_FnExactDurableOf.p31 : Nat → ByteArray → Int → Int → Int → List ByteArray → List Int → List (Int × List Int) → Bool → Int → Int → Int → List ByteArray → List Int → List (Int × List Int) → Bool → Bool → Option (Bool)
 | 0, _, _, _, _, _, _, _, _, _, _, _, _, _, _, _, _ => none
 | k + 1, x1, x2_0, x2_1, x2_2, x2_3, x6_0, x6_1, x7, x8_0, x8_1, x8_2, x8_3, x9_0, x9_1, x10, x47 => (if x47 = true then (some false) else ((laws_toConfig.f k x2_0 x2_1 x2_2 x2_3).bind fun t13 => ((laws_eqConfig.f k x8_0 x8_1 x8_2 x8_3 t13.1 t13.2.1 t13.2.2.1 t13.2.2.2).bind fun t14 => (if t14 = true then ((laws_markConfig.f k x8_0 x8_1 x8_2 x8_3 1).bind fun t15 => (if t15.2 < 0 then (laws_FnExactDurableOf.p51 k x1 x2_0 x2_1 x2_2 x2_3 x6_0 x6_1 x7 x9_0 x9_1 true) else ((laws_eqGraph.f k x9_0 x9_1 x6_0 x6_1).bind fun t16 => (if t16 = true then (laws_FnExactDurableOf.p51 k x1 x2_0 x2_1 x2_2 x2_3 x6_0 x6_1 x7 x9_0 x9_1 (!decide (x10 = x7))) else (laws_FnExactDurableOf.p51 k x1 x2_0 x2_1 x2_2 x2_3 x6_0 x6_1 x7 x9_0 x9_1 true))))) else (some false)))))
def laws_FnExactDurableOf.p51 : Nat → ByteArray → Int → Int → Int → List ByteArray → List Int → List (Int × List Int) → Bool → List Int → List (Int × List Int) → Bool → Option (Bool)
 | 0, _, _, _, _, _, _, _, _, _, _, _ => none
 | k + 1, x1, x2_0, x2_1, x2_2, x2_3, x6_0, x6_1, x7, x9_0, x9_1, x68 => (if x68 = true then (some false) else ((laws_markGraph.f k x9_0 x9_1 1).bind fun t7 => ((laws_heldGraph.f k t7.1 t7.2.1 1).bind fun t8 => (if t8 < 0 then (some false) else (if t8 = t7.2.2 then ((laws_toConfig.f k x2_0 x2_1 x2_2 x2_3).bind fun t9 => ((impl_DurableOf.f k t9.1 t9.2.1 t9.2.2.1 t9.2.2.2 x1).bind fun t10 => ((laws_eqGraph.f k t10.1 t10.2.1 x6_0 x6_1).bind fun t11 => (if t11 = true then (if t10.2.2 = x7 then ((laws_heldGraph.f k t7.1 t7.2.1 1).bind fun t12 => (if t12 < 0 then (some false) else (if t12 = t7.2.2 then (some true) else (some false)))) else (some false)) else (some false))))) else (some false))))))
end
def laws_FnExactDurableOf.f (k : Nat) (a0_0 : Int) (a0_1 : Int) (a0_2 : Int) (a0_3 : List ByteArray) (a1 : ByteArray) : Option (Bool) := (if (a1.size : Int) > 1048576 then (some true) else ((laws_szConfig.f k a0_0 a0_1 a0_2 a0_3 1048576).bind fun t1 => (if t1 < 0 then (some true) else ((laws_toConfig.f k a0_0 a0_1 a0_2 a0_3).bind fun t2 => ((spec_DurableOf.f k t2.1 t2.2.1 t2.2.2.1 t2.2.2.2 a1).bind fun t3 => ((laws_toConfig.f k a0_0 a0_1 a0_2 a0_3).bind fun t4 => ((impl_DurableOf.f k t4.1 t4.2.1 t4.2.2.1 t4.2.2.2 a1).bind fun t5 => ((laws_eqGraph.f k t5.1 t5.2.1 t3.1 t3.2.1).bind fun t6 => (if t6 = true then (laws_FnExactDurableOf.p31 k a1 a0_0 a0_1 a0_2 a0_3 t3.1 t3.2.1 t3.2.2 t4.1 t4.2.1 t4.2.2.1 t4.2.2.2 t5.1 t5.2.1 t5.2.2 (!decide (t5.2.2 = t3.2.2))) else (laws_FnExactDurableOf.p31 k a1 a0_0 a0_1 a0_2 a0_3 t3.1 t3.2.1 t3.2.2 t4.1 t4.2.1 t4.2.2.1 t4.2.2.2 t5.1 t5.2.1 t5.2.2 true))))))))))
/-- What is left to show. -/
def laws_FnExactDurableOf.Pure : Prop := ∀ (x0 : Int × Int × Int × List ByteArray) (x1 : ByteArray), Ty.ok (.pair (.int .i64) (.pair (.int .i64) (.pair (.int .i64) (.sl .str)))) x0 → Ty.ok .str x1 → ∃ k, laws_FnExactDurableOf.f k x0.1 x0.2.1 x0.2.2.1 x0.2.2.2 x1 = some true
end
end Go.Proofs.YtbpeiilildchlaaGreatDoor.Abs
namespace Go.Proofs.YtbpeiilildchlaaGreatDoor.Abs
open Go Go.RowKit
set_option linter.unusedVariables false
set_option linter.unusedSectionVars false
set_option linter.unusedSimpArgs false
theorem l1In_f (a lo hi : Int) : spec_l1In.f a lo hi = some (decide (lo ≤ a) && decide (a ≤ hi)) := by
  unfold spec_l1In.f
  split
  · rename_i h; simp [show lo ≤ a from h]
  · rename_i h; have : ¬ lo ≤ a := h; simp [this]
theorem within_f (a lo hi : Int) : impl_within.f a lo hi = some (decide (lo ≤ a) && decide (a ≤ hi)) := by
  unfold impl_within.f
  split
  · rename_i h; simp [show lo ≤ a from h]
  · rename_i h; have : ¬ lo ≤ a := h; simp [this]
end Go.Proofs.YtbpeiilildchlaaGreatDoor.Abs
namespace Go.Proofs.YtbpeiilildchlaaGreatDoor.Abs
open Go Go.RowKit
set_option linter.unusedVariables false
set_option linter.unusedSectionVars false
set_option linter.unusedSimpArgs false

/-! ### texts and lists of bytes -/
def isBytes (xs : List Int) : Prop := ∀ x ∈ xs, 0 ≤ x ∧ x ≤ 255
theorem bytesOf_isBytes (s : ByteArray) : isBytes (bytesOf s) := by
  intro x hx
  obtain ⟨b, _, rfl⟩ := List.mem_map.1 hx
  have := b.toNat_lt
  omega
theorem isBytes_of {xs : List Int} (h : ∀ x ∈ xs, (Go.Lit.int .u8 x).wf = true) : isBytes xs := by
  intro x hx
  have := h x hx
  simp [Go.Lit.wf, Go.IntKind.min, Go.IntKind.max, Go.IntKind.signed, Go.IntKind.bits] at this
  omega
theorem isBytes_set {xs : List Int} (h : isBytes xs) (i : Nat) {v : Int} (h0 : 0 ≤ v) (h1 : v ≤ 255) : isBytes (xs.set i v) := by
  intro x hx
  rcases List.mem_or_eq_of_mem_set hx with h2 | rfl
  · exact h x h2
  · exact ⟨h0, h1⟩
theorem isBytes_getD {xs : List Int} (h : isBytes xs) (i : Nat) : 0 ≤ xs.getD i 0 ∧ xs.getD i 0 ≤ 255 := by
  rcases Nat.lt_or_ge i xs.length with hi | hi
  · rw [List.getD_eq_getElem?_getD, List.getElem?_eq_getElem hi]
    exact h _ (List.getElem_mem hi)
  · rw [List.getD_eq_getElem?_getD, List.getElem?_eq_none hi]
    simp
theorem isBytes_replicate (n : Nat) : isBytes (List.replicate n 0) := by
  intro x hx
  rw [List.eq_of_mem_replicate hx]
  omega
theorem strOfNums_size (xs : List Int) : (strOfNums xs).size = xs.length := by
  show (List.toArray _).size = _
  simp
theorem bytesOf_strOfNums {xs : List Int} (h : isBytes xs) : bytesOf (strOfNums xs) = xs := by
  unfold bytesOf strOfNums
  simp only [List.map_map]
  conv => rhs; rw [← List.map_id xs]
  refine List.map_congr_left (fun x hx => ?_)
  have := h x hx
  simp
  omega
theorem strOfNums_bytesOf (s : ByteArray) : strOfNums (bytesOf s) = s := by
  unfold bytesOf strOfNums
  simp [Function.comp_def]
theorem bytesOf_inj {s t : ByteArray} (h : bytesOf s = bytesOf t) : s = t := by rw [← strOfNums_bytesOf s, h, strOfNums_bytesOf]
theorem toList_bytesOf (s : ByteArray) : s.toList.map (fun b => (b.toNat : Int)) = bytesOf s := by
  unfold bytesOf
  rw [ByteArray.toList_eq]
theorem toList_inj {s t : ByteArray} : s.toList = t.toList ↔ s = t :=
  ⟨fun h => bytesOf_inj (by rw [← toList_bytesOf, ← toList_bytesOf, h]), fun h => by rw [h]⟩
theorem toList_beq (s t : ByteArray) : (s.toList == t.toList) = decide (s = t) := by
  rw [Bool.eq_iff_iff]
  simp [toList_inj]
theorem bt_bytesOf (s : ByteArray) (i : Nat) : bt s (i : Int) = (bytesOf s).getD i 0 := by
  rw [← rd_bytesOf, rd_eq]

/-! ### a byte's bits -/
def bitv (x : Int) (r : Nat) : Bool := x / 2 ^ r % 2 == 1
theorem bitv_nat (n r : Nat) : bitv (n : Int) r = n.testBit r := by
  unfold bitv
  rw [Nat.testBit_eq_decide_div_mod_eq]
  have e : (n : Int) / 2 ^ r % 2 = ((n / 2 ^ r % 2 : Nat) : Int) := by simp
  rw [e, Bool.eq_iff_iff, beq_iff_eq, decide_eq_true_eq]
  omega
theorem wrap_u8_nat {n : Nat} (h : n < 256) : IntKind.u8.wrap (n : Int) = n := by
  rw [IntKind.wrap_u8]
  omega
theorem cast_mod {m : Nat} (h : m < 256) : (m : Int) % 256 = (m : Int) := by omega
theorem two_pow_lt {r : Nat} (hr : r < 8) : (2 ^ r : Nat) < 256 := by
  have : (2 ^ r : Nat) ≤ 2 ^ 7 := Nat.pow_le_pow_right (by decide) (by omega)
  omega
section
variable {x : Int} (h0 : 0 ≤ x) (h1 : x ≤ 255) {r : Nat} (hr : r < 8)
include h0 h1 hr
theorem byte_xor : (0 ≤ Go.bits .xor .u8 x (2 ^ r % 256) ∧ Go.bits .xor .u8 x (2 ^ r % 256) ≤ 255) ∧ ∀ q, q < 8 → bitv (Go.bits .xor .u8 x (2 ^ r % 256)) q = (bitv x q != decide (q = r)) := by
  obtain ⟨n, rfl⟩ := Int.eq_ofNat_of_zero_le h0
  have hp := two_pow_lt hr
  have e : (2 : Int) ^ r % 256 = ((2 ^ r : Nat) : Int) := by rw [show (2 : Int) ^ r = ((2 ^ r : Nat) : Int) from (Int.natCast_pow 2 r).symm]; exact cast_mod hp
  have hlt := ((BitVec.ofNat 8 n) ^^^ (BitVec.ofNat 8 (2 ^ r))).isLt
  have g : Go.bits .xor .u8 (n : Int) (2 ^ r % 256) = ((((BitVec.ofNat 8 n) ^^^ (BitVec.ofNat 8 (2 ^ r))).toNat : Nat) : Int) := by
    rw [e]
    unfold Go.bits
    simp only [BitVec.ofInt_natCast]
    exact wrap_u8_nat (Nat.lt_of_lt_of_eq hlt (by decide))
  rw [g]
  refine ⟨⟨by omega, by simp only [Nat.reducePow] at hlt; omega⟩, fun q hq => ?_⟩
  rw [bitv_nat, bitv_nat, BitVec.testBit_toNat, BitVec.getLsbD_xor, BitVec.getLsbD_ofNat, BitVec.getLsbD_ofNat, Nat.testBit_two_pow]
  simp [hq, eq_comm]
theorem byte_clear : (0 ≤ Go.bits .andNot .u8 x (2 ^ r % 256) ∧ Go.bits .andNot .u8 x (2 ^ r % 256) ≤ 255) ∧ ∀ q, q < 8 → bitv (Go.bits .andNot .u8 x (2 ^ r % 256)) q = (bitv x q && !decide (q = r)) := by
  obtain ⟨n, rfl⟩ := Int.eq_ofNat_of_zero_le h0
  have hp := two_pow_lt hr
  have e : (2 : Int) ^ r % 256 = ((2 ^ r : Nat) : Int) := by rw [show (2 : Int) ^ r = ((2 ^ r : Nat) : Int) from (Int.natCast_pow 2 r).symm]; exact cast_mod hp
  have hlt := ((BitVec.ofNat 8 n) &&& ~~~(BitVec.ofNat 8 (2 ^ r))).isLt
  have g : Go.bits .andNot .u8 (n : Int) (2 ^ r % 256) = ((((BitVec.ofNat 8 n) &&& ~~~(BitVec.ofNat 8 (2 ^ r))).toNat : Nat) : Int) := by
    rw [e]
    unfold Go.bits
    simp only [BitVec.ofInt_natCast]
    exact wrap_u8_nat (Nat.lt_of_lt_of_eq hlt (by decide))
  rw [g]
  refine ⟨⟨by omega, by simp only [Nat.reducePow] at hlt; omega⟩, fun q hq => ?_⟩
  rw [bitv_nat, bitv_nat, BitVec.testBit_toNat, BitVec.getLsbD_and, BitVec.getLsbD_not, BitVec.getLsbD_ofNat, BitVec.getLsbD_ofNat, Nat.testBit_two_pow]
  simp [hq, eq_comm]
theorem byte_set : (0 ≤ Go.bits .or .u8 x (2 ^ r % 256) ∧ Go.bits .or .u8 x (2 ^ r % 256) ≤ 255) ∧ ∀ q, q < 8 → bitv (Go.bits .or .u8 x (2 ^ r % 256)) q = (bitv x q || decide (q = r)) := by
  obtain ⟨n, rfl⟩ := Int.eq_ofNat_of_zero_le h0
  have hp := two_pow_lt hr
  have e : (2 : Int) ^ r % 256 = ((2 ^ r : Nat) : Int) := by rw [show (2 : Int) ^ r = ((2 ^ r : Nat) : Int) from (Int.natCast_pow 2 r).symm]; exact cast_mod hp
  have hlt := ((BitVec.ofNat 8 n) ||| (BitVec.ofNat 8 (2 ^ r))).isLt
  have g : Go.bits .or .u8 (n : Int) (2 ^ r % 256) = ((((BitVec.ofNat 8 n) ||| (BitVec.ofNat 8 (2 ^ r))).toNat : Nat) : Int) := by
    rw [e]
    unfold Go.bits
    simp only [BitVec.ofInt_natCast]
    exact wrap_u8_nat (Nat.lt_of_lt_of_eq hlt (by decide))
  rw [g]
  refine ⟨⟨by omega, by simp only [Nat.reducePow] at hlt; omega⟩, fun q hq => ?_⟩
  rw [bitv_nat, bitv_nat, BitVec.testBit_toNat, BitVec.getLsbD_or, BitVec.getLsbD_ofNat, BitVec.getLsbD_ofNat, Nat.testBit_two_pow]
  simp [hq, eq_comm]
end
theorem byte_ext {x y : Int} (h0 : 0 ≤ x) (h1 : x ≤ 255) (h2 : 0 ≤ y) (h3 : y ≤ 255) (h : ∀ q, q < 8 → bitv x q = bitv y q) : x = y := by
  obtain ⟨n, rfl⟩ := Int.eq_ofNat_of_zero_le h0
  obtain ⟨m, rfl⟩ := Int.eq_ofNat_of_zero_le h2
  refine congrArg _ (Nat.eq_of_testBit_eq (fun i => ?_))
  rcases Nat.lt_or_ge i 8 with hi | hi
  · simpa [bitv_nat] using h i hi
  · have hp : (2 : Nat) ^ 8 ≤ 2 ^ i := Nat.pow_le_pow_right (by decide) hi
    rw [Nat.testBit_lt_two_pow (by omega), Nat.testBit_lt_two_pow (by omega)]
/-- Bit i of a list of bytes. -/
def bitL (xs : List Int) (i : Nat) : Bool := bitv (xs.getD (i / 8) 0) (i % 8)
theorem bytes_ext {xs ys : List Int} (hx : isBytes xs) (hy : isBytes ys) (hl : xs.length = ys.length) (h : ∀ i, i < 8 * xs.length → bitL xs i = bitL ys i) : xs = ys := by
  refine List.ext_getElem hl (fun m h1 h2 => ?_)
  have gx := hx _ (List.getElem_mem h1)
  have gy := hy _ (List.getElem_mem h2)
  refine byte_ext gx.1 gx.2 gy.1 gy.2 (fun q hq => ?_)
  have e := h (8 * m + q) (by omega)
  unfold bitL at e
  rw [show (8 * m + q) / 8 = m from by omega, show (8 * m + q) % 8 = q from by omega] at e
  simpa [List.getD_eq_getElem?_getD, h1, h2] using e
/-- A byte changed: which bits change. -/
theorem bitL_set {xs : List Int} {i : Nat} (hi : i < xs.length) (v : Int) (j : Nat) : bitL (xs.set i v) j = if j / 8 = i then bitv v (j % 8) else bitL xs j := by
  unfold bitL
  split
  · rename_i h
    rw [h, List.getD_eq_getElem?_getD, List.getElem?_set_self hi]
    rfl
  · rename_i h
    rw [List.getD_eq_getElem?_getD, List.getElem?_set_ne (fun e => h e.symm), ← List.getD_eq_getElem?_getD]
end Go.Proofs.YtbpeiilildchlaaGreatDoor.Abs
namespace Go.Proofs.YtbpeiilildchlaaGreatDoor.Abs
open Go Go.RowKit
set_option linter.unusedVariables false
set_option linter.unusedSectionVars false
set_option linter.unusedSimpArgs false

theorem rdOf_get {α : Type} {d : α} {l : List α} {i : Nat} (h : i < l.length) : rdOf d l (i : Int) = l[i] := by
  simp [rdOf, List.getD_eq_getElem?_getD, List.getElem?_eq_getElem h]

/-- The search: the first place where the test says yes, or -1. -/
theorem index_ev {α : Type} {d : α} {l : List α} (hl : l.length ≤ 1099511627776) {g : Nat → Int → Option Int} {t : Nat → α → Option Bool} {f : α → Bool}
    (hg : ∀ k (i : Int), g (k + 1) i = if i < (l.length : Int) then (if 0 ≤ i then (if i < (l.length : Int) then ((t k (rdOf d l i)).bind fun b => if b = true then some i else g k (wrap64 (i + 1))) else none) else none) else some (-1))
    (ht : ∀ x ∈ l, Ev (fun k => t k x) (f x)) : ∃ r, Ev (fun k => g k 0) r ∧ decide (r ≥ 0) = l.any f := by
  have lp : ∀ (m i : Nat), l.length - i = m → i ≤ l.length → ∃ r, Ev (fun k => g k (i : Int)) r ∧ decide (r ≥ 0) = (l.drop i).any f := by
    intro m
    induction m with
    | zero =>
      intro i hm hi
      rw [List.drop_eq_nil_of_le (by omega)]
      exact ⟨-1, Ev.step (fun k => by rw [hg]) (Ev.neg (by omega) (Ev.eq rfl)), by simp⟩
    | succ m ih =>
      intro i hm hi
      have hlt : i < l.length := by omega
      obtain ⟨r, hr, he⟩ := ih (i + 1) (by omega) (by omega)
      rw [List.drop_eq_getElem_cons hlt, List.any_cons]
      cases c : f l[i] with
      | true =>
        refine ⟨(i : Int), Ev.step (fun k => by rw [hg]) (Ev.pos (by omega) (Ev.pos (by omega) (Ev.pos (by omega) ?_))), by simp⟩
        rw [rdOf_get hlt]
        exact Ev.bind (ht _ (List.getElem_mem hlt)) (Ev.pos c (Ev.eq rfl))
      | false =>
        refine ⟨r, Ev.step (fun k => by rw [hg]) (Ev.pos (by omega) (Ev.pos (by omega) (Ev.pos (by omega) ?_))), by rw [he, Bool.false_or]⟩
        rw [rdOf_get hlt, show wrap64 ((i : Int) + 1) = ((i + 1 : Nat) : Int) from by rw [w64 (by omega) (by omega)]; omega]
        exact Ev.bind (ht _ (List.getElem_mem hlt)) (Ev.neg (by simp [c]) hr)
  obtain ⟨r, h1, h2⟩ := lp _ 0 rfl (Nat.zero_le _)
  exact ⟨r, h1, by rw [h2, List.drop_zero]⟩

/-- ContainsFunc. -/
theorem contains_ev {α : Type} {d : α} {l : List α} (hl : l.length ≤ 1099511627776) {g : Nat → Int → Option Int} {t : Nat → α → Option Bool} {f : α → Bool}
    (hg : ∀ k (i : Int), g (k + 1) i = if i < (l.length : Int) then (if 0 ≤ i then (if i < (l.length : Int) then ((t k (rdOf d l i)).bind fun b => if b = true then some i else g k (wrap64 (i + 1))) else none) else none) else some (-1))
    (ht : ∀ x ∈ l, Ev (fun k => t k x) (f x)) : Ev (fun k => (g k 0).bind fun t1 => some (decide (t1 ≥ 0))) (l.any f) := by
  obtain ⟨r, h1, h2⟩ := index_ev hl hg ht
  exact Ev.bind h1 (Ev.eq h2)
end Go.Proofs.YtbpeiilildchlaaGreatDoor.Abs
namespace Go.Proofs.YtbpeiilildchlaaGreatDoor.Abs
open Go Go.RowKit
set_option linter.unusedVariables false
set_option linter.unusedSectionVars false
set_option linter.unusedSimpArgs false
def kindsOk (l : List UInt8) : Bool := l.all fun b => [105, 114].contains b
def typeOk (s : ByteArray) : Bool := decide (1 ≤ s.size ∧ s.size ≤ 23) && kindsOk s.data.toList
def typesOk (l : List ByteArray) : Bool := decide (1 ≤ l.length ∧ l.length ≤ 12) && l.all typeOk
theorem dropWhile_all {p : UInt8 → Bool} : ∀ l : List UInt8, (∀ x ∈ l.dropWhile p, p x = true) → l.dropWhile p = []
  | [], _ => rfl
  | a :: l, h => by
    by_cases c : p a = true
    · rw [List.dropWhile_cons_of_pos c] at h ⊢
      exact dropWhile_all l h
    · rw [List.dropWhile_cons_of_neg c] at h
      exact absurd (h a (List.mem_cons_self ..)) c
theorem dropWhile_nil_iff {p : UInt8 → Bool} (l : List UInt8) : l.dropWhile p = [] ↔ ∀ x ∈ l, p x = true := by
  constructor
  · intro h
    induction l with
    | nil => simp
    | cons a l ih =>
      by_cases c : p a = true
      · rw [List.dropWhile_cons_of_pos c] at h
        intro x hx
        rcases List.mem_cons.1 hx with rfl | hx
        · exact c
        · exact ih h x hx
      · rw [List.dropWhile_cons_of_neg c] at h
        cases h
  · exact fun h => dropWhile_all l (fun x hx => h x ((List.dropWhile_sublist _).mem hx))
theorem trim_nil (l cs : List UInt8) : Lib.trimS l cs = [] ↔ ∀ x ∈ l, cs.contains x = true := by
  unfold Lib.trimS Lib.trimLeftS Lib.trimRightS
  rw [dropWhile_nil_iff]
  constructor
  · intro h
    have h1 := dropWhile_all (p := fun x => cs.contains x) l.reverse (fun x hx => h x (List.mem_reverse.2 hx))
    rw [dropWhile_nil_iff] at h1
    exact fun x hx => h1 x (List.mem_reverse.2 hx)
  · intro h x hx
    exact h x (List.mem_reverse.1 ((List.dropWhile_sublist _).mem (List.mem_reverse.1 hx)))
theorem isType_f (s : ByteArray) (hs : s.size ≤ 1048576) : impl_isType.f s = some (typeOk s) := by
  unfold impl_isType.f typeOk
  rw [within_f, Option.bind_some]
  by_cases c : 1 ≤ s.size ∧ s.size ≤ 23
  · rw [if_pos (by simp; omega), decide_eq_true c, Bool.true_and]
    have ht : strings_Trim.f s (⟨#[105, 114]⟩ : ByteArray) = some ⟨(Lib.trimS s.data.toList [105, 114]).toArray⟩ := by
      unfold strings_Trim.f
      rw [if_pos (by omega), if_pos (by decide), if_pos (by decide)]
    rw [ht, Option.bind_some]
    congr 1
    rw [Bool.eq_iff_iff, decide_eq_true_iff, ByteArray.toList_eq, ByteArray.toList_eq]
    show (Lib.trimS s.data.toList [105, 114]).toArray.toList = [] ↔ _
    rw [trim_nil, kindsOk, List.all_eq_true]
  · rw [if_neg (by simp; omega), decide_eq_false c, Bool.false_and]
theorem impl_TypesOk_ev (l : List ByteArray) (hs : ∀ x ∈ l, x.size ≤ 1048576) : Ev (fun k => impl_TypesOk.f k l) (typesOk l) := by
  have hany : l.length ≤ 12 → Ev (fun k => slices_ContainsFunc_string_at_impl_TypesOk_1.f k l) (l.any fun x => !typeOk x) := fun hl => by
    unfold slices_ContainsFunc_string_at_impl_TypesOk_1.f slices_IndexFunc_string_at_impl_TypesOk_1.f
    refine contains_ev (d := ByteArray.empty) (l := l) (by omega) (g := fun k i => slices_IndexFunc_string_at_impl_TypesOk_1.p6 k l (l.length : Int) i) (t := fun _ x => impl_TypesOk_1.f x) (f := fun x => !typeOk x) (fun k i => by rw [slices_IndexFunc_string_at_impl_TypesOk_1.p6]) (fun x hx => ?_)
    unfold impl_TypesOk_1.f
    exact Ev.bindo (isType_f x (hs x hx)) (Ev.eq rfl)
  unfold impl_TypesOk.f typesOk
  refine Ev.bindo rfl (Ev.bindo (within_f _ _ _) ?_)
  by_cases c : 1 ≤ l.length ∧ l.length ≤ 12
  · refine Ev.pos (by simp; omega) (Ev.bind (hany c.2) (Ev.eq ?_))
    rw [decide_eq_true c, Bool.true_and, List.any_eq_not_all_not]
    simp
  · refine Ev.neg (by simp; omega) (Ev.eq ?_)
    rw [decide_eq_false c, Bool.false_and]
theorem bt_get {s : ByteArray} {i : Nat} (h : i < s.data.toList.length) : bt s (i : Int) = (s.data.toList[i].toNat : Int) := by
  have h' : i < s.size := h
  rw [← bt_at s (i : Int) (by simpa using h')]
  simp [ByteArray.getElem_eq_getElem_data]
theorem l3Type_ev (s : ByteArray) (hs : s.size ≤ 1048576) : Ev (fun k => spec_l3Type.f k s) (typeOk s) := by
  have hlen : s.data.toList.length = s.size := rfl
  have lp : ∀ (d i : Nat), s.size - i = d → i ≤ s.size → Ev (fun k => spec_l3Type.p6 k s (i : Int)) (decide (1 ≤ s.size ∧ s.size ≤ 23) && kindsOk (s.data.toList.drop i)) := by
    intro d
    induction d with
    | zero =>
      intro i hd hi
      rw [List.drop_eq_nil_of_le (by omega)]
      refine Ev.step (fun k => by rw [spec_l3Type.p6]) (Ev.neg (by omega) (Ev.bindo (l1In_f _ _ _) (Ev.eq ?_)))
      simp only [kindsOk, List.all_nil, Bool.and_true]
      rw [Bool.eq_iff_iff]
      simp
      omega
    | succ d ih =>
      intro i hd hi
      have hlt : i < s.data.toList.length := by omega
      have ih := ih (i + 1) (by omega) (by omega)
      refine Ev.step (fun k => by rw [spec_l3Type.p6]) ?_
      rw [byteAt_eq, bt_get hlt, show wrap64 ((i : Int) + 1) = ((i + 1 : Nat) : Int) from by rw [w64 (by omega) (by omega)]; omega, List.drop_eq_getElem_cons hlt]
      generalize s.data.toList[i] = b at *
      have hb : kindsOk (b :: s.data.toList.drop (i + 1)) = ([105, 114].contains b && kindsOk (s.data.toList.drop (i + 1))) := rfl
      rw [hb]
      refine Ev.pos (by omega) (Ev.pos (by omega) (Ev.pos (by omega) (Ev.cases (fun c => ?_) (fun c => Ev.pos (by omega) (Ev.pos (by omega) (Ev.cases (fun c2 => ?_) (fun c2 => Ev.eq ?_)))))))
      · have e : b = 105 := UInt8.toNat_inj.1 (by show b.toNat = 105; omega)
        subst e
        rw [show [105, 114].contains (105 : UInt8) = true from rfl, Bool.true_and]
        exact ih
      · have e : b = 114 := UInt8.toNat_inj.1 (by show b.toNat = 114; omega)
        subst e
        rw [show [105, 114].contains (114 : UInt8) = true from rfl, Bool.true_and]
        exact ih
      · have e : [105, 114].contains b = false := by
          rw [Bool.eq_false_iff]
          intro h
          simp at h
          rcases h with h | h
          · subst h; exact c rfl
          · subst h; exact c2 rfl
        rw [e, Bool.false_and, Bool.and_false]
  unfold spec_l3Type.f typeOk
  have h := lp _ 0 rfl (by omega)
  rw [List.drop_zero] at h
  exact h
theorem spec_TypesOk_ev (l : List ByteArray) (hl : l.length ≤ 1048576) (hs : ∀ x ∈ l, x.size ≤ 1048576) : Ev (fun k => spec_TypesOk.f k l) (typesOk l) := by
  have lp : ∀ (d i : Nat), l.length - i = d → i ≤ l.length → Ev (fun k => spec_TypesOk.p14 k l (i : Int)) ((l.drop i).all typeOk) := by
    intro d
    induction d with
    | zero =>
      intro i hd hi
      rw [List.drop_eq_nil_of_le (by omega)]
      refine Ev.step (fun k => by rw [spec_TypesOk.p14]) ?_
      exact Ev.neg (by omega) (Ev.eq rfl)
    | succ d ih =>
      intro i hd hi
      have hlt : i < l.length := by omega
      have ih := ih (i + 1) (by omega) (by omega)
      refine Ev.step (fun k => by rw [spec_TypesOk.p14]) ?_
      rw [show rdOf ByteArray.empty l (i : Int) = l[i] from by simp [rdOf, List.getD_eq_getElem?_getD, List.getElem?_eq_getElem hlt], show wrap64 ((i : Int) + 1) = ((i + 1 : Nat) : Int) from by rw [w64 (by omega) (by omega)]; omega, List.drop_eq_getElem_cons hlt, List.all_cons]
      refine Ev.pos (by omega) (Ev.pos (by omega) (Ev.pos (by omega) (Ev.bind (l3Type_ev l[i] (hs _ (List.getElem_mem hlt))) (Ev.cases (fun c => ?_) (fun c => ?_)))))
      · rw [c, Bool.true_and]
        exact ih
      · rw [Bool.eq_false_iff.2 c, Bool.false_and]
        exact Ev.eq rfl
  unfold spec_TypesOk.f typesOk
  refine Ev.bindo (l1In_f _ _ _) ?_
  by_cases c : 1 ≤ l.length ∧ l.length ≤ 12
  · rw [decide_eq_true c, Bool.true_and]
    refine Ev.pos (by simp; omega) ?_
    have h := lp _ 0 rfl (by omega)
    rw [List.drop_zero] at h
    exact h
  · rw [decide_eq_false c, Bool.false_and]
    exact Ev.neg (by simp; omega) (Ev.eq rfl)
end Go.Proofs.YtbpeiilildchlaaGreatDoor.Abs
namespace Go.Proofs.YtbpeiilildchlaaGreatDoor.Abs
open Go Go.RowKit
set_option linter.unusedVariables false
set_option linter.unusedSectionVars false
set_option linter.unusedSimpArgs false

/-- From the end down. -/
theorem down {P : Nat → Prop} {n : Nat} (h0 : P n) (hs : ∀ i, i < n → P (i + 1) → P i) : ∀ i, i ≤ n → P i := by
  have key : ∀ d i, n - i = d → i ≤ n → P i := by
    intro d
    induction d with
    | zero => intro i hd hi; obtain rfl : i = n := by omega
              exact h0
    | succ d ih => intro i hd hi; exact hs i (by omega) (ih (i + 1) (by omega) (by omega))
  exact fun i hi => key _ i rfl hi
theorem w64s {i : Nat} (h : i ≤ 4611686018427387904) : wrap64 ((i : Int) + 1) = ((i + 1 : Nat) : Int) := by
  rw [w64 (by omega) (by omega)]; omega
theorem rdg {α : Type} {d : α} {l : List α} {i : Nat} (h : i < l.length) : rdOf d l (i : Int) = l[i] := by
  simp [rdOf, List.getD_eq_getElem?_getD, List.getElem?_eq_getElem h]

/-- A list filled place by place. -/
theorem fill_ev {α : Type} {l : List α} {g : Nat → List α → Int → Option (List α)} (z : α)
    (hs : ∀ i (h : i < l.length) (out : List α), out.length = l.length → ∀ r, Ev (fun k => g k (out.set i l[i]) ((i + 1 : Nat) : Int)) r → Ev (fun k => g k out (i : Int)) r)
    (hf : ∀ out : List α, out.length = l.length → Ev (fun k => g k out (l.length : Int)) out) : Ev (fun k => g k (List.replicate l.length z) 0) l := by
  have key : ∀ i, i ≤ l.length → ∀ out : List α, out.length = l.length → (∀ j : Nat, j < i → out[j]? = l[j]?) → Ev (fun k => g k out (i : Int)) l := by
    refine down ?_ ?_
    · intro out ho ht
      have : out = l := List.ext_getElem? fun j => by
        by_cases h : j < l.length
        · exact ht j h
        · rw [List.getElem?_eq_none (by omega), List.getElem?_eq_none (by omega)]
      subst this
      exact hf out ho
    · intro i hi ih out ho ht
      refine hs i hi out ho l (ih _ (by rw [List.length_set]; exact ho) fun j hj => ?_)
      by_cases e : j = i
      · subst e; rw [List.getElem?_set_self (by omega), List.getElem?_eq_getElem hi]
      · rw [List.getElem?_set_ne (fun h => e h.symm)]; exact ht j (by omega)
  exact key 0 (Nat.zero_le _) _ (by simp) (fun j hj => by omega)

/-- A sum of non-negative parts, for the sizes of arguments. -/
theorem sz_loop {α : Type} {l : List α} {ok : α → Prop} {g : Nat → Int → Int → Option Int} (hl : l.length ≤ 4611686018427387904)
    (hs : ∀ i (h : i < l.length) (left : Int), 0 ≤ left → left ≤ 1048576 → (∃ r, r < 0 ∧ Ev (fun k => g k left (i : Int)) r) ∨ ∃ left', 0 ≤ left' ∧ left' ≤ left ∧ ok l[i] ∧ ∀ r, Ev (fun k => g k left' ((i + 1 : Nat) : Int)) r → Ev (fun k => g k left (i : Int)) r)
    (hf : ∀ left : Int, Ev (fun k => g k left (l.length : Int)) left) : ∀ left : Int, 0 ≤ left → left ≤ 1048576 → ∃ r, Ev (fun k => g k left 0) r ∧ (0 ≤ r → r ≤ left ∧ ∀ x ∈ l, ok x) := by
  have key : ∀ i, i ≤ l.length → ∀ left : Int, 0 ≤ left → left ≤ 1048576 → ∃ r, Ev (fun k => g k left (i : Int)) r ∧ (0 ≤ r → r ≤ left ∧ ∀ x ∈ l.drop i, ok x) := by
    refine down ?_ ?_
    · intro left h0 h1
      exact ⟨left, hf left, fun _ => ⟨Int.le_refl _, by simp⟩⟩
    · intro i hi ih left h0 h1
      rcases hs i hi left h0 h1 with ⟨r, hr, he⟩ | ⟨left', a0, a1, ho, hst⟩
      · exact ⟨r, he, fun h => by omega⟩
      · obtain ⟨r, he, hr⟩ := ih left' a0 (by omega)
        refine ⟨r, hst r he, fun h => ⟨by have := (hr h).1; omega, ?_⟩⟩
        rw [List.drop_eq_getElem_cons hi]
        intro x hx
        rcases List.mem_cons.1 hx with rfl | hx
        · exact ho
        · exact (hr h).2 x hx
  intro left h0 h1
  obtain ⟨r, he, hr⟩ := key 0 (Nat.zero_le _) left h0 h1
  exact ⟨r, he, by simpa using hr⟩

/-- The references among an object's values, from one on. -/
def refsB (p : Int → Bool) (t : ByteArray) : Nat → List Int → Bool
  | _, [] => true
  | i, v :: l => if bt t (i : Int) = 114 then p v && refsB p t (i + 1) l else refsB p t (i + 1) l
/-- isObject's loop, at any condition. -/
theorem refs_ev {types : List ByteArray} {vals : List Int} {tp : Int} {p : Int → Bool} {t : Nat → Int → Option Bool} {g : Nat → Int → Option Bool} (h0 : 0 ≤ tp) (h1 : tp < types.length) (hv : vals.length = (rdOf ByteArray.empty types tp).size) (hvl : vals.length ≤ 1099511627776)
    (hg : ∀ k (i : Int), g (k + 1) i = (if i < (vals.length : Int) then (if 0 ≤ i then (if i < (vals.length : Int) then (if 0 ≤ tp then (if tp < (types.length : Int) then (if 0 ≤ i then (if i < ((rdOf ByteArray.empty types tp).size : Int) then (if (byteAt (rdOf ByteArray.empty types tp) i) = 114 then ((t k (rd vals i)).bind fun t3 => (if t3 = true then (g k (wrap64 (i + 1))) else (some false))) else (g k (wrap64 (i + 1)))) else none) else none) else none) else none) else none) else none) else (some true)))
    (ht : ∀ x ∈ vals, Ev (fun k => t k x) (p x)) : Ev (fun k => g k 0) (refsB p (rdOf ByteArray.empty types tp) 0 vals) := by
  have key : ∀ i, i ≤ vals.length → Ev (fun k => g k (i : Int)) (refsB p (rdOf ByteArray.empty types tp) i (vals.drop i)) := by
    refine down ?_ ?_
    · rw [List.drop_eq_nil_of_le (Nat.le_refl _)]
      refine Ev.step (fun k => hg k _) ?_
      exact Ev.neg (by omega) (Ev.eq rfl)
    · intro i hi ih
      refine Ev.step (fun k => hg k _) ?_
      rw [rd_get hi, w64s (by omega), List.drop_eq_getElem_cons hi, refsB]
      refine Ev.pos (by omega) (Ev.pos (by omega) (Ev.pos (by omega) (Ev.pos h0 (Ev.pos h1 (Ev.pos (by omega) (Ev.pos (by omega) ?_))))))
      by_cases c : bt (rdOf ByteArray.empty types tp) (i : Int) = 114
      · rw [if_pos c]
        refine Ev.pos c (Ev.bind (ht _ (List.getElem_mem hi)) (Ev.cases (fun c2 => ?_) (fun c2 => ?_)))
        · rw [c2, Bool.true_and]; exact ih
        · rw [Bool.eq_false_iff.2 c2, Bool.false_and]; exact Ev.eq rfl
      · rw [if_neg c]
        exact Ev.neg c ih
  have h := key 0 (Nat.zero_le _)
  rw [List.drop_zero] at h
  exact h
/-- The same answer from every place on. -/
theorem each_ev {β : Type} {n : Nat} {g : Nat → Int → Option β} {r : β} (hs : ∀ i, i < n → Ev (fun k => g k ((i + 1 : Nat) : Int)) r → Ev (fun k => g k (i : Int)) r) (hf : Ev (fun k => g k (n : Int)) r) : Ev (fun k => g k 0) r :=
  down (P := fun i => Ev (fun k => g k (i : Int)) r) hf hs 0 (Nat.zero_le _)
/-- A condition asked of all elements in order. -/
theorem all_ev {α : Type} {l : List α} {p : α → Bool} {g : Nat → Int → Option Bool}
    (hs : ∀ i (h : i < l.length), (p l[i] = true → ∀ r, Ev (fun k => g k ((i + 1 : Nat) : Int)) r → Ev (fun k => g k (i : Int)) r) ∧ (p l[i] = false → Ev (fun k => g k (i : Int)) false))
    (b : Bool) (hf : Ev (fun k => g k (l.length : Int)) b) : Ev (fun k => g k 0) (l.all p && b) := by
  have key : ∀ i, i ≤ l.length → Ev (fun k => g k (i : Int)) ((l.drop i).all p && b) := by
    refine down ?_ ?_
    · rw [List.drop_eq_nil_of_le (Nat.le_refl _)]
      simpa using hf
    · intro i hi ih
      rw [List.drop_eq_getElem_cons hi, List.all_cons]
      cases c : p l[i] with
      | true => rw [Bool.true_and]; exact (hs i hi).1 c _ ih
      | false => rw [Bool.false_and, Bool.false_and]; exact (hs i hi).2 c
  have h := key 0 (Nat.zero_le _)
  rw [List.drop_zero] at h
  exact h
end Go.Proofs.YtbpeiilildchlaaGreatDoor.Abs
namespace Go.Proofs.YtbpeiilildchlaaGreatDoor.Abs
open Go Go.RowKit
set_option linter.unusedVariables false
set_option linter.unusedSectionVars false
set_option linter.unusedSimpArgs false
theorem eqStringS_ev (l : List ByteArray) (hl : l.length ≤ 1048576) : Ev (fun k => laws_eqStringS.f k l l) true := by
  unfold laws_eqStringS.f
  refine Ev.pos rfl ?_
  refine each_ev (n := l.length) (g := fun k i => laws_eqStringS.p14 k l l i) (fun i hi hr => ?_) ?_
  · refine Ev.step (fun k => by rw [laws_eqStringS.p14]) ?_
    rw [w64s (by omega)]
    exact Ev.pos (by omega) (Ev.pos (by omega) (Ev.pos (by omega) (Ev.pos (by omega) (Ev.pos (by omega) (Ev.pos rfl hr)))))
  · refine Ev.step (fun k => by rw [laws_eqStringS.p14]) ?_
    exact Ev.neg (by omega) (Ev.eq rfl)
end Go.Proofs.YtbpeiilildchlaaGreatDoor.Abs
namespace Go.Proofs.YtbpeiilildchlaaGreatDoor.Abs
open Go Go.RowKit
set_option linter.unusedVariables false
set_option linter.unusedSectionVars false
set_option linter.unusedSimpArgs false
theorem szStringS_ev (l : List ByteArray) (hl : l.length ≤ maxLen) (hs : ∀ x ∈ l, x.size ≤ maxLen) (left : Int) (h0 : 0 ≤ left) (h1 : left ≤ 1048576) : ∃ r, Ev (fun k => laws_szStringS.f k l left) r ∧ (0 ≤ r → r ≤ left ∧ l.length ≤ 1048576 ∧ ∀ x ∈ l, x.size ≤ 1048576) := by
  unfold maxLen at hl hs
  unfold laws_szStringS.f
  rw [w64 (x := left - (l.length : Int)) (by omega) (by omega)]
  by_cases c : left - (l.length : Int) < 0
  · exact ⟨-1, Ev.pos c (Ev.eq rfl), fun h => by omega⟩
  · have key : ∀ left : Int, 0 ≤ left → left ≤ 1048576 → ∃ r, Ev (fun k => laws_szStringS.p16 k l left 0) r ∧ (0 ≤ r → r ≤ left ∧ ∀ x ∈ l, (fun x => x.size ≤ 1048576) x) := by
      refine sz_loop (g := fun k left i => laws_szStringS.p16 k l left i) (by omega) (fun i hi left h0 h1 => ?_) (fun left => ?_)
      · have hx := hs _ (List.getElem_mem hi)
        have hg : rdOf ByteArray.empty l (i : Int) = l[i] := rdg hi
        generalize l[i] = x at *
        by_cases c2 : left - (x.size : Int) < 0
        · refine .inl ⟨-1, by omega, Ev.step (fun k => by rw [laws_szStringS.p16]) ?_⟩
          rw [hg, w64 (x := left - (x.size : Int)) (by omega) (by omega)]
          exact Ev.pos (by omega) (Ev.pos (by omega) (Ev.pos (by omega) (Ev.pos c2 (Ev.eq rfl))))
        · refine .inr ⟨left - (x.size : Int), by omega, by omega, by omega, fun r hr => Ev.step (fun k => by rw [laws_szStringS.p16]) ?_⟩
          rw [hg, w64 (x := left - (x.size : Int)) (by omega) (by omega), w64s (by omega)]
          exact Ev.pos (by omega) (Ev.pos (by omega) (Ev.pos (by omega) (Ev.neg c2 hr)))
      · refine Ev.step (fun k => by rw [laws_szStringS.p16]) ?_
        exact Ev.neg (by omega) (Ev.eq rfl)
    obtain ⟨r, hr, hp⟩ := key (left - (l.length : Int)) (by omega) (by omega)
    exact ⟨r, Ev.neg c hr, fun h => ⟨by have := (hp h).1; omega, by omega, (hp h).2⟩⟩
theorem toStringS_ev (l : List ByteArray) (hl : l.length ≤ 1048576) : Ev (fun k => laws_toStringS.f k l) l := by
  unfold laws_toStringS.f
  refine Ev.pos (by omega) (Ev.pos (by omega) ?_)
  rw [Int.toNat_natCast]
  refine fill_ev (g := fun k out i => laws_toStringS.p8 k l out i) _ (fun i hi out ho r hr => ?_) (fun out ho => ?_)
  · refine Ev.step (fun k => by rw [laws_toStringS.p8]) ?_
    rw [rdg hi, w64s (by omega), Int.toNat_natCast]
    exact Ev.pos (by omega) (Ev.pos (by omega) (Ev.pos (by omega) (Ev.pos (by omega) (Ev.pos (by omega) hr))))
  · refine Ev.step (fun k => by rw [laws_toStringS.p8]) ?_
    exact Ev.neg (by omega) (Ev.eq rfl)
end Go.Proofs.YtbpeiilildchlaaGreatDoor.Abs
namespace Go.Proofs.YtbpeiilildchlaaGreatDoor.Abs.Pu
open Go Go.RowKit
set_option linter.unusedVariables false
set_option linter.unusedSectionVars false
set_option linter.unusedSimpArgs false
theorem markText_ev (n : Int) (h0 : 1 ≤ n) (h1 : n ≤ 1099511627776) : ∃ s, Ev (fun k => laws_markText.f k n) s := by
  have lp : ∀ (d : Nat) (x : Int) (acc : ByteArray), x.toNat ≤ d → 0 ≤ x → (acc.size : Int) + x ≤ 1099511627776 → ∃ s, Ev (fun k => laws_markText.p14 k x acc) s := by
    intro d
    induction d with
    | zero =>
      intro x acc hd hx ha
      refine ⟨_, Ev.step (fun k => by rw [laws_markText.p14]) (Ev.neg (by omega) (Ev.pos ?_ (Ev.eq rfl)))⟩
      show 1 + acc.size ≤ _
      omega
    | succ d ih =>
      intro x acc hd hx ha
      by_cases c : x > 0
      · have hz : (strOf [(wrap64 (48 + (Int.tmod x 10))) % 256]).size = 1 := by rw [strOf_eq, strOfNums_size]; rfl
        have e : wrap64 (Int.tdiv x 10) = x / 10 := by rw [Int.tdiv_eq_ediv_of_nonneg (by omega), w64 (by omega) (by omega)]
        obtain ⟨s, hs⟩ := ih (x / 10) (strOf [(wrap64 (48 + (Int.tmod x 10))) % 256] ++ acc) (by omega) (by omega) (by rw [ByteArray.size_append, hz]; omega)
        refine ⟨s, Ev.step (fun k => by rw [laws_markText.p14]) ?_⟩
        rw [e]
        exact Ev.pos c (Ev.pos (by rw [hz]; omega) hs)
      · refine ⟨_, Ev.step (fun k => by rw [laws_markText.p14]) (Ev.neg c (Ev.pos ?_ (Ev.eq rfl)))⟩
        show 1 + acc.size ≤ _
        omega
  obtain ⟨s, hs⟩ := lp n.toNat n ⟨#[]⟩ (Nat.le_refl _) (by omega) (by show ((0 : Nat) : Int) + n ≤ _; omega)
  refine ⟨s, ?_⟩
  unfold laws_markText.f
  exact Ev.neg (by omega) hs
theorem markStringS_ev (l : List ByteArray) (m : Int) (h0 : 1 ≤ m) (h1 : m ≤ 1048577) (hl : l.length ≤ 1048576) : ∃ l', Ev (fun k => laws_markStringS.f k l m) (l', m + (l.length : Int)) := by
  have key : ∀ i, i ≤ l.length → ∀ x : List ByteArray, x.length = l.length → ∃ l', Ev (fun k => laws_markStringS.p6 k x (m + (i : Int)) (i : Int)) (l', m + (l.length : Int)) := by
    refine down ?_ ?_
    · intro x hx
      exact ⟨x, Ev.step (fun k => by rw [laws_markStringS.p6]) (Ev.neg (by omega) (Ev.eq rfl))⟩
    · intro i hi ih x hx
      obtain ⟨s, hs⟩ := markText_ev (m + (i : Int)) (by omega) (by omega)
      obtain ⟨l', h⟩ := ih (x.set i s) (by rw [List.length_set]; exact hx)
      refine ⟨l', Ev.step (fun k => by rw [laws_markStringS.p6]) ?_⟩
      rw [w64s (i := i) (by omega), show wrap64 (m + (i : Int) + 1) = m + ((i + 1 : Nat) : Int) from by rw [w64 (by omega) (by omega)]; omega, Int.toNat_natCast]
      exact Ev.pos (by omega) (Ev.bind hs (Ev.pos (by omega) (Ev.pos (by omega) h)))
  unfold laws_markStringS.f
  have := key 0 (Nat.zero_le _) l rfl
  rwa [show m + ((0 : Nat) : Int) = m from by omega] at this
end Go.Proofs.YtbpeiilildchlaaGreatDoor.Abs.Pu
namespace Go.Proofs.YtbpeiilildchlaaGreatDoor.Abs.Pu
open Go Go.RowKit
set_option linter.unusedVariables false
set_option linter.unusedSectionVars false
set_option linter.unusedSimpArgs false
abbrev Cfg := Int × Int × Int × List ByteArray
def configOk (c : Cfg) : Bool := (decide (8 ≤ c.1) && decide (c.1 ≤ 128)) && ((decide (1 ≤ c.2.1) && decide (c.2.1 ≤ 32 ∧ c.2.1 ≤ c.1 - 5)) && ((decide (2 ≤ c.2.2.1) && decide (c.2.2.1 ≤ 400)) && typesOk c.2.2.2))
theorem impl_ConfigOk_ev (c : Cfg) (hs : ∀ x ∈ c.2.2.2, x.size ≤ 1048576) : Ev (fun k => impl_ConfigOk.f k c.1 c.2.1 c.2.2.1 c.2.2.2) (configOk c) := by
  unfold impl_ConfigOk.f configOk
  refine Ev.bindo (within_f _ _ _) (Ev.cases (fun h => ?_) (fun h => by rw [Bool.eq_false_iff.2 h, Bool.false_and]; exact Ev.eq rfl))
  rw [h, Bool.true_and]
  simp only [Bool.and_eq_true, decide_eq_true_eq] at h
  rw [w64 (x := c.1 - 5) (by omega) (by omega)]
  have e : (decide (1 ≤ c.2.1) && decide (c.2.1 ≤ (if c.1 - 5 < 32 then c.1 - 5 else 32))) = (decide (1 ≤ c.2.1) && decide (c.2.1 ≤ 32 ∧ c.2.1 ≤ c.1 - 5)) := by
    congr 1
    rw [decide_eq_decide]
    split <;> omega
  refine Ev.bindo (within_f _ _ _) ?_
  rw [e]
  refine Ev.cases (fun h2 => ?_) (fun h2 => by rw [Bool.eq_false_iff.2 h2, Bool.false_and]; exact Ev.eq rfl)
  rw [h2, Bool.true_and]
  refine Ev.bindo (within_f _ _ _) (Ev.cases (fun h3 => ?_) (fun h3 => by rw [Bool.eq_false_iff.2 h3, Bool.false_and]; exact Ev.eq rfl))
  rw [h3, Bool.true_and]
  exact Ev.bind (impl_TypesOk_ev _ hs) (Ev.eq rfl)
theorem spec_ConfigOk_ev (c : Cfg) (hl : c.2.2.2.length ≤ 1048576) (hs : ∀ x ∈ c.2.2.2, x.size ≤ 1048576) : Ev (fun k => spec_ConfigOk.f k c.1 c.2.1 c.2.2.1 c.2.2.2) (configOk c) := by
  unfold spec_ConfigOk.f configOk
  refine Ev.bindo (l1In_f _ _ _) (Ev.cases (fun h => ?_) (fun h => by rw [Bool.eq_false_iff.2 h, Bool.false_and]; exact Ev.eq rfl))
  rw [h, Bool.true_and]
  simp only [Bool.and_eq_true, decide_eq_true_eq] at h
  rw [w64 (x := c.1 - 5) (by omega) (by omega)]
  refine Ev.bindo (l1In_f _ _ _) (Ev.cases (fun h2 => ?_) (fun h2 => ?_))
  · simp only [Bool.and_eq_true, decide_eq_true_eq] at h2
    refine Ev.cases (fun h4 => ?_) (fun h4 => ?_)
    · rw [decide_eq_true h2.1, decide_eq_true (show c.2.1 ≤ 32 ∧ c.2.1 ≤ c.1 - 5 from ⟨h2.2, h4⟩), Bool.true_and, Bool.true_and]
      refine Ev.bindo (l1In_f _ _ _) (Ev.cases (fun h3 => ?_) (fun h3 => by rw [Bool.eq_false_iff.2 h3, Bool.false_and]; exact Ev.eq rfl))
      rw [h3, Bool.true_and]
      exact Ev.bind (spec_TypesOk_ev _ hl hs) (Ev.eq rfl)
    · rw [decide_eq_false (show ¬ (c.2.1 ≤ 32 ∧ c.2.1 ≤ c.1 - 5) from fun h => h4 h.2), Bool.and_false, Bool.false_and]
      exact Ev.eq rfl
  · have : (decide (1 ≤ c.2.1) && decide (c.2.1 ≤ 32 ∧ c.2.1 ≤ c.1 - 5)) = false := by
      rw [Bool.eq_false_iff]
      intro h3
      apply h2
      simp only [Bool.and_eq_true, decide_eq_true_eq] at h3 ⊢
      omega
    rw [this, Bool.false_and]
    exact Ev.eq rfl
theorem configOk_facts {c : Cfg} (h : configOk c = true) : 8 ≤ c.1 ∧ c.1 ≤ 128 ∧ 1 ≤ c.2.1 ∧ c.2.1 ≤ 32 ∧ c.2.1 ≤ c.1 - 5 ∧ 2 ≤ c.2.2.1 ∧ c.2.2.1 ≤ 400 ∧ typesOk c.2.2.2 = true := by
  unfold configOk at h
  simp only [Bool.and_eq_true, decide_eq_true_eq] at h
  exact ⟨h.1.1, h.1.2, h.2.1.1, h.2.1.2.1, h.2.1.2.2, h.2.2.1.1, h.2.2.1.2, h.2.2.2⟩
end Go.Proofs.YtbpeiilildchlaaGreatDoor.Abs.Pu
namespace Go.Proofs.YtbpeiilildchlaaGreatDoor.Abs.Pu
open Go Go.RowKit
set_option linter.unusedVariables false
set_option linter.unusedSectionVars false
set_option linter.unusedSimpArgs false
theorem szConfig_ev (c : Cfg) (hl : c.2.2.2.length ≤ maxLen) (hs : ∀ x ∈ c.2.2.2, x.size ≤ maxLen) (left : Int) (h0 : 0 ≤ left) (h1 : left ≤ 1048576) : ∃ r, Ev (fun k => laws_szConfig.f k c.1 c.2.1 c.2.2.1 c.2.2.2 left) r ∧ (0 ≤ r → r ≤ left ∧ c.2.2.2.length ≤ 1048576 ∧ ∀ x ∈ c.2.2.2, x.size ≤ 1048576) := by
  unfold laws_szConfig.f
  obtain ⟨r, e, hr⟩ := szStringS_ev c.2.2.2 hl hs left h0 h1
  by_cases h : r < 0
  · exact ⟨-1, Ev.bind e (Ev.pos h (Ev.eq rfl)), fun h => by omega⟩
  · exact ⟨r, Ev.bind e (Ev.neg h (Ev.eq rfl)), hr⟩
theorem toConfig_ev (c : Cfg) (hl : c.2.2.2.length ≤ 1048576) : Ev (fun k => laws_toConfig.f k c.1 c.2.1 c.2.2.1 c.2.2.2) c := by
  unfold laws_toConfig.f
  exact Ev.bind (toStringS_ev _ hl) (Ev.eq rfl)
theorem eqConfig_ev (c : Cfg) (hl : c.2.2.2.length ≤ 1048576) : Ev (fun k => laws_eqConfig.f k c.1 c.2.1 c.2.2.1 c.2.2.2 c.1 c.2.1 c.2.2.1 c.2.2.2) true := by
  unfold laws_eqConfig.f
  exact Ev.pos rfl (Ev.pos rfl (Ev.pos rfl (Ev.bind (eqStringS_ev _ hl) (Ev.pos rfl (Ev.eq rfl)))))
end Go.Proofs.YtbpeiilildchlaaGreatDoor.Abs.Pu
namespace Go.Proofs.YtbpeiilildchlaaGreatDoor.Abs.Pu
open Go Go.RowKit
set_option linter.unusedVariables false
set_option linter.unusedSectionVars false
set_option linter.unusedSimpArgs false
theorem repeat_zero (n : Nat) : Lib.repeatL [0] n = List.replicate n 0 := by
  induction n with
  | zero => rfl
  | succ n ih => rw [Lib.repeatL, ih]; rfl
def zerosB (n : Nat) : ByteArray := strOfNums (List.replicate n 0)
theorem zerosB_size (n : Nat) : (zerosB n).size = n := by rw [zerosB, strOfNums_size, List.length_replicate]
theorem bytesOf_zerosB (n : Nat) : bytesOf (zerosB n) = List.replicate n 0 := bytesOf_strOfNums (isBytes_replicate n)
def mapOk (s : ByteArray) : Prop := s.size = 64 ∧ s.extract 16 s.size = zerosB 48
instance (s : ByteArray) : Decidable (mapOk s) := by unfold mapOk; infer_instance
/-- Is line n taken. -/
def tkn (s : ByteArray) (n : Int) : Bool := bitL (bytesOf s) n.toNat
theorem and_one {x : Int} (h0 : 0 ≤ x) (h1 : x ≤ 255) : Go.bits .and .u8 x 1 = x % 2 := by
  have h := Go.bits_mask .u8 8 (by decide) Go.wraps_u8 1 (by decide) x h0 (by omega)
  simpa using h
theorem div_range {x : Int} (h0 : 0 ≤ x) (h1 : x ≤ 255) (r : Nat) : 0 ≤ x / 2 ^ r ∧ x / 2 ^ r ≤ 255 := by
  have hp : (0 : Int) < 2 ^ r := Int.pow_pos (by decide)
  exact ⟨Int.ediv_nonneg h0 (by omega), Int.le_trans (Int.ediv_le_self _ h0) h1⟩
/-! ### lines -/
/-- The taken ones of the lines i, .., i + d - 1. -/
def linesFrom (t : Int → Bool) (i : Int) : Nat → List Int
  | 0 => []
  | d + 1 => if t i then i :: linesFrom t (i + 1) d else linesFrom t (i + 1) d
theorem linesFrom_length (t : Int → Bool) : ∀ (d : Nat) (i : Int), (linesFrom t i d).length ≤ d
  | 0, i => by simp [linesFrom]
  | d + 1, i => by
    have h := linesFrom_length t d (i + 1)
    simp only [linesFrom]
    split
    · simp; omega
    · omega
def linesOf (s : ByteArray) : List Int := if mapOk s then linesFrom (tkn s) 0 128 else []
def turn1 (xs : List Int) (i : Nat) : List Int := xs.set (i / 8) (Go.bits .xor .u8 (xs.getD (i / 8) 0) (2 ^ (i % 8) % 256))
def turnL (xs : List Int) (a : Nat) : Nat → List Int
  | 0 => xs
  | n + 1 => turn1 (turnL xs a n) (a + n)
theorem turnL_length (xs : List Int) (a : Nat) : ∀ n, (turnL xs a n).length = xs.length
  | 0 => rfl
  | n + 1 => by simp [turnL, turn1, turnL_length xs a n]
theorem turnL_next (xs : List Int) (a i : Nat) (h : a ≤ i) : turnL xs a (i + 1 - a) = turn1 (turnL xs a (i - a)) i := by
  rw [show i + 1 - a = (i - a) + 1 from by omega, turnL, show a + (i - a) = i from by omega]
def change1 (xs : List Int) (i : Nat) (t : Bool) : List Int :=
  if t = true then (xs.set (i / 8) (Go.bits .andNot .u8 (xs.getD (i / 8) 0) (2 ^ (i % 8) % 256))).set (i / 8) (Go.bits .or .u8 (Go.bits .andNot .u8 (xs.getD (i / 8) 0) (2 ^ (i % 8) % 256)) (2 ^ (i % 8) % 256))
  else xs.set (i / 8) (Go.bits .andNot .u8 (xs.getD (i / 8) 0) (2 ^ (i % 8) % 256))
def changeL (xs : List Int) (a : Nat) (t : Bool) : Nat → List Int
  | 0 => xs
  | n + 1 => change1 (changeL xs a t n) (a + n) t
theorem changeL_length (xs : List Int) (a : Nat) (t : Bool) : ∀ n, (changeL xs a t n).length = xs.length
  | 0 => rfl
  | n + 1 => by
    have ih := changeL_length xs a t n
    simp only [changeL, change1]
    split <;> simp [ih]
theorem changeL_next (xs : List Int) (a : Nat) (t : Bool) (i : Nat) (h : a ≤ i) : changeL xs a t (i + 1 - a) = change1 (changeL xs a t (i - a)) i t := by
  rw [show i + 1 - a = (i - a) + 1 from by omega, changeL, show a + (i - a) = i from by omega]
/-- What turning a bit changes. -/
theorem turn1_bit {xs : List Int} (hx : isBytes xs) {i : Nat} (hi : i / 8 < xs.length) (j : Nat) : bitL (turn1 xs i) j = (bitL xs j != decide (j = i)) := by
  unfold turn1
  have hb := isBytes_getD hx (i / 8)
  have h := (byte_xor hb.1 hb.2 (show i % 8 < 8 by omega)).2 (j % 8) (by omega)
  rw [bitL_set hi]
  split
  · rename_i e
    rw [h]
    unfold bitL
    rw [e]
    congr 1
    exact decide_eq_decide.2 (by omega)
  · rename_i e
    rw [show decide (j = i) = false from decide_eq_false (fun q => e (by rw [q]))]
    simp
theorem turn1_isBytes {xs : List Int} (hx : isBytes xs) (i : Nat) : isBytes (turn1 xs i) := by
  have hb := isBytes_getD hx (i / 8)
  have h := (byte_xor hb.1 hb.2 (show i % 8 < 8 by omega)).1
  exact isBytes_set hx _ h.1 h.2
theorem turn1_length (xs : List Int) (i : Nat) : (turn1 xs i).length = xs.length := by simp [turn1]
theorem clear1_bit {xs : List Int} (hx : isBytes xs) {i : Nat} (hi : i / 8 < xs.length) (j : Nat) : bitL (change1 xs i false) j = (bitL xs j && !decide (j = i)) := by
  unfold change1
  rw [if_neg (by simp)]
  have hb := isBytes_getD hx (i / 8)
  have h := (byte_clear hb.1 hb.2 (show i % 8 < 8 by omega)).2 (j % 8) (by omega)
  rw [bitL_set hi]
  split
  · rename_i e
    rw [h]
    unfold bitL
    rw [e]
    congr 2
    exact decide_eq_decide.2 (by omega)
  · rename_i e
    rw [show decide (j = i) = false from decide_eq_false (fun q => e (by rw [q]))]
    simp
theorem set1_bit {xs : List Int} (hx : isBytes xs) {i : Nat} (hi : i / 8 < xs.length) (j : Nat) : bitL (change1 xs i true) j = (bitL xs j || decide (j = i)) := by
  unfold change1
  rw [if_pos rfl]
  have hb := isBytes_getD hx (i / 8)
  have hc := byte_clear hb.1 hb.2 (show i % 8 < 8 by omega)
  have hs := byte_set hc.1.1 hc.1.2 (show i % 8 < 8 by omega)
  rw [bitL_set (by simpa using hi)]
  split
  · rename_i e
    rw [hs.2 _ (by omega), hc.2 _ (by omega)]
    unfold bitL
    rw [e]
    have : decide (j % 8 = i % 8) = decide (j = i) := decide_eq_decide.2 (by omega)
    rw [this]
    cases bitv (xs.getD (i / 8) 0) (j % 8) <;> cases decide (j = i) <;> rfl
  · rename_i e
    rw [bitL_set hi, if_neg e, show decide (j = i) = false from decide_eq_false (fun q => e (by rw [q]))]
    simp
theorem change1_isBytes {xs : List Int} (hx : isBytes xs) (i : Nat) (t : Bool) : isBytes (change1 xs i t) := by
  have hb := isBytes_getD hx (i / 8)
  have hc := byte_clear hb.1 hb.2 (show i % 8 < 8 by omega)
  have hs := byte_set hc.1.1 hc.1.2 (show i % 8 < 8 by omega)
  unfold change1
  split
  · exact isBytes_set (isBytes_set hx _ hc.1.1 hc.1.2) _ hs.1.1 hs.1.2
  · exact isBytes_set hx _ hc.1.1 hc.1.2
theorem change1_length (xs : List Int) (i : Nat) (t : Bool) : (change1 xs i t).length = xs.length := by
  unfold change1
  split <;> simp
theorem turnL_isBytes {xs : List Int} (hx : isBytes xs) (a : Nat) : ∀ n, isBytes (turnL xs a n)
  | 0 => hx
  | n + 1 => turn1_isBytes (turnL_isBytes hx a n) _
theorem changeL_isBytes {xs : List Int} (hx : isBytes xs) (a : Nat) (t : Bool) : ∀ n, isBytes (changeL xs a t n)
  | 0 => hx
  | n + 1 => change1_isBytes (changeL_isBytes hx a t n) _ _
/-- The bits behind a change. -/
theorem changeL_bit {xs : List Int} (hx : isBytes xs) (a : Nat) (t : Bool) : ∀ (n : Nat), a + n ≤ 8 * xs.length → ∀ j, bitL (changeL xs a t n) j = if a ≤ j ∧ j < a + n then t else bitL xs j
  | 0, h, j => by rw [if_neg (by omega)]; rfl
  | n + 1, h, j => by
    have ih := changeL_bit hx a t n (by omega) j
    have hi : (a + n) / 8 < (changeL xs a t n).length := by rw [changeL_length]; omega
    simp only [changeL]
    cases t
    · rw [clear1_bit (changeL_isBytes hx a false n) hi, ih]
      by_cases e : j = a + n
      · subst e; simp
      · rw [show decide (j = a + n) = false from decide_eq_false e]
        by_cases e2 : a ≤ j ∧ j < a + n
        · rw [if_pos e2, if_pos (by omega)]; rfl
        · rw [if_neg e2, if_neg (by omega)]; simp
    · rw [set1_bit (changeL_isBytes hx a true n) hi, ih]
      by_cases e : j = a + n
      · subst e; simp
      · rw [show decide (j = a + n) = false from decide_eq_false e]
        by_cases e2 : a ≤ j ∧ j < a + n
        · rw [if_pos e2, if_pos (by omega)]; rfl
        · rw [if_neg e2, if_neg (by omega)]; simp
theorem turnL_bit {xs : List Int} (hx : isBytes xs) (a : Nat) : ∀ (n : Nat), a + n ≤ 8 * xs.length → ∀ j, bitL (turnL xs a n) j = if a ≤ j ∧ j < a + n then !bitL xs j else bitL xs j
  | 0, h, j => by rw [if_neg (by omega)]; rfl
  | n + 1, h, j => by
    have ih := turnL_bit hx a n (by omega) j
    have hi : (a + n) / 8 < (turnL xs a n).length := by rw [turnL_length]; omega
    simp only [turnL]
    rw [turn1_bit (turnL_isBytes hx a n) hi, ih]
    by_cases e : j = a + n
    · subst e; simp
    · rw [show decide (j = a + n) = false from decide_eq_false e]
      by_cases e2 : a ≤ j ∧ j < a + n
      · rw [if_pos e2, if_pos (by omega)]; simp
      · rw [if_neg e2, if_neg (by omega)]; simp
/-- Where the bits were the other way, turning them is setting (or clearing) them. -/
theorem turn_change {xs : List Int} (hx : isBytes xs) (a n : Nat) (t : Bool) (h : a + n ≤ 8 * xs.length) (hb : ∀ j, a ≤ j → j < a + n → bitL xs j = !t) : turnL xs a n = changeL xs a t n := by
  refine bytes_ext (turnL_isBytes hx a n) (changeL_isBytes hx a t n) (by rw [turnL_length, changeL_length]) (fun j hj => ?_)
  rw [turnL_bit hx a n h, changeL_bit hx a t n h]
  split
  · rename_i c
    rw [hb j c.1 c.2]; simp
  · rfl
/-- All of n lines from a on are taken (t), or all are free. -/
def allAre (s : ByteArray) (t : Bool) (a n : Int) : Prop := ∀ j, a ≤ j → j < a + n → tkn s j = t
theorem allAre_iff (s : ByteArray) (t : Bool) (a n : Nat) : allAre s t a n ↔ ∀ j : Nat, a ≤ j → j < a + n → bitL (bytesOf s) j = t :=
  ⟨fun h j h0 h1 => by have := h (j : Int) (by omega) (by omega); simpa [tkn] using this, fun h j h0 h1 => by
    have := h j.toNat (by omega) (by omega)
    exact this⟩
instance allAre_dec (s : ByteArray) (t : Bool) (a n : Nat) : Decidable (∀ j : Nat, a ≤ j → j < a + n → bitL (bytesOf s) j = t) :=
  decidable_of_iff (∀ i, i < n → bitL (bytesOf s) (a + i) = t) ⟨fun h j h0 h1 => by have := h (j - a) (by omega); rwa [show a + (j - a) = j from by omega] at this, fun h i hi => h (a + i) (by omega) (by omega)⟩
def runOk (s : ByteArray) (a n : Int) : Prop := mapOk s ∧ (1 ≤ n ∧ n ≤ 128) ∧ 0 ≤ a ∧ a ≤ 128 - n
instance (s : ByteArray) (a n : Int) : Decidable (runOk s a n) := by unfold runOk; infer_instance
/-- TakeRun (t = true), GiveRun (t = false). -/
def changed (s : ByteArray) (t : Bool) (a n : Nat) : ByteArray := strOfNums (changeL (bytesOf s) a t n)
def runResult (s : ByteArray) (t : Bool) (a n : Int) : ByteArray × Bool :=
  if runOk s a n then (if ∀ j : Nat, a.toNat ≤ j → j < a.toNat + n.toNat → bitL (bytesOf s) j = !t then (changed s t a.toNat n.toNat, true) else (⟨#[]⟩, false)) else (⟨#[]⟩, false)
end Go.Proofs.YtbpeiilildchlaaGreatDoor.Abs.Pu
namespace Go.Proofs.YtbpeiilildchlaaGreatDoor.Abs.Pu
open Go Go.RowKit
set_option linter.unusedVariables false
set_option linter.unusedSectionVars false
set_option linter.unusedSimpArgs false
theorem bytesOf_extract (s : ByteArray) (i : Nat) : bytesOf (s.extract i s.size) = (bytesOf s).drop i := by
  unfold bytesOf
  rw [ByteArray.data_extract, Array.toList_extract]
  have e : s.size = s.data.toList.length := by rw [Array.length_toList]; rfl
  rw [List.extract_eq_take_drop, List.take_of_length_le (by rw [List.length_drop]; omega), List.map_drop]
theorem mapOk_iff (s : ByteArray) : mapOk s ↔ (bytesOf s).length = 64 ∧ (bytesOf s).drop 16 = List.replicate 48 0 := by
  unfold mapOk
  rw [bytesOf_length]
  refine and_congr_right fun h => ⟨fun k => ?_, fun k => bytesOf_inj ?_⟩
  · rw [← bytesOf_extract, k, bytesOf_zerosB]
  · rw [bytesOf_extract, k, bytesOf_zerosB]
theorem bitL_zeros (n j : Nat) : bitL (List.replicate n 0) j = false := by
  unfold bitL
  have e : (List.replicate n (0 : Int)).getD (j / 8) 0 = 0 := by
    rw [List.getD_eq_getElem?_getD, List.getElem?_replicate]
    split <;> rfl
  rw [e]
  simp [bitv]
theorem zerosB_map : mapOk (zerosB 64) := (mapOk_iff _).2 ⟨by rw [bytesOf_zerosB, List.length_replicate], by rw [bytesOf_zerosB, List.drop_replicate]⟩
theorem tkn_zeros (n j : Nat) : tkn (zerosB n) (j : Int) = false := by
  unfold tkn
  rw [bytesOf_zerosB]
  exact bitL_zeros n _
theorem change_drop (m : List Int) (x y : Nat) (t : Bool) (h : x + y ≤ 128) : (changeL m x t y).drop 16 = m.drop 16 := by
  induction y with
  | zero => rfl
  | succ y ih =>
    rw [changeL]
    unfold change1
    split
    · rw [List.drop_set_of_lt (by omega), List.drop_set_of_lt (by omega), ih (by omega)]
    · rw [List.drop_set_of_lt (by omega), ih (by omega)]
theorem changed_map {m : ByteArray} (hm : mapOk m) (x y : Nat) (t : Bool) (h : x + y ≤ 128) : mapOk (changed m t x y) ∧ ∀ j : Nat, j < 512 → tkn (changed m t x y) (j : Int) = if x ≤ j ∧ j < x + y then t else tkn m (j : Int) := by
  have h64 : (bytesOf m).length = 64 := by rw [bytesOf_length]; exact hm.1
  have hb := bytesOf_isBytes m
  have hbs := changeL_isBytes hb x t y
  have e : bytesOf (changed m t x y) = changeL (bytesOf m) x t y := by unfold changed; rw [bytesOf_strOfNums hbs]
  refine ⟨(mapOk_iff _).2 (by rw [e, changeL_length, change_drop _ _ _ _ h]; exact (mapOk_iff _).1 hm), fun j hj => ?_⟩
  unfold tkn
  rw [e, Int.toNat_natCast, changeL_bit hb x t y (by omega)]
/-- What a run that can be taken comes to. -/
theorem take_yes {m : ByteArray} {a n : Int} (h : (runResult m true a n).2 = true) : runOk m a n ∧ (∀ j : Nat, a.toNat ≤ j → j < a.toNat + n.toNat → tkn m (j : Int) = false) ∧ runResult m true a n = (changed m true a.toNat n.toNat, true) := by
  unfold runResult at h ⊢
  split at h
  · rename_i c
    split at h
    · rename_i c2
      refine ⟨c, fun j h0 h1 => ?_, by rw [if_pos c, if_pos c2]⟩
      have := c2 j h0 h1
      unfold tkn
      rw [Int.toNat_natCast]
      simpa using this
    · cases h
  · cases h
theorem take_iff {m : ByteArray} {a n : Int} (h : runOk m a n) : (runResult m true a n).2 = true ↔ ∀ j : Nat, a.toNat ≤ j → j < a.toNat + n.toNat → tkn m (j : Int) = false := by
  refine ⟨fun k => (take_yes k).2.1, fun k => ?_⟩
  unfold runResult
  rw [if_pos h, if_pos (fun j h0 h1 => by
    have := k j h0 h1
    unfold tkn at this
    rw [Int.toNat_natCast] at this
    rw [this]; rfl)]
/-- Turned, where it is free. -/
theorem turned_is {m : ByteArray} {x y : Nat} (hm : mapOk m) (h : x + y ≤ 128) (hf : ∀ j : Nat, x ≤ j → j < x + y → tkn m (j : Int) = false) : strOfNums (turnL (bytesOf m) x y) = changed m true x y := by
  unfold changed
  rw [turn_change (bytesOf_isBytes m) x y true (by rw [bytesOf_length, hm.1]; omega) (fun j h0 h1 => by
    have := hf j h0 h1
    unfold tkn at this
    rw [Int.toNat_natCast] at this
    rw [this]; rfl)]
end Go.Proofs.YtbpeiilildchlaaGreatDoor.Abs.Pu
namespace Go.Proofs.YtbpeiilildchlaaGreatDoor.Abs
open Go Go.RowKit
set_option linter.unusedVariables false
set_option linter.unusedSectionVars false
set_option linter.unusedSimpArgs false

theorem or_low (a b : Nat) (ha : a % 256 = 0) (hb : b < 256) : a ||| b = a + b := by
  have hq : a = 2 ^ 8 * (a / 2 ^ 8) := by
    have := Nat.div_add_mod a (2 ^ 8)
    omega
  rw [hq, ← Nat.two_pow_add_eq_or_of_lt (by simpa using hb) (a / 2 ^ 8)]
theorem or8_u64 (x y : Int) (h0 : 0 ≤ x) (h1 : x < 18446744073709551616) (hx : x % 256 = 0) (hy : 0 ≤ y) (hy1 : y < 256) : Go.bits .or .u64 x y = x + y := by
  unfold Go.bits
  simp only [BitVec.toNat_or, BitVec.toNat_ofInt]
  rw [show IntKind.u64.bits = 64 from rfl, or_low _ _ (by omega) (by omega)]
  simp only [IntKind.wrap, IntKind.bits, IntKind.signed]
  simp
  omega
theorem or8_i64 (x y : Int) (h0 : -9223372036854775808 ≤ x) (h1 : x ≤ 9223372036854775807) (hx : x % 256 = 0) (hy : 0 ≤ y) (hy1 : y < 256) : Go.bits .or .i64 x y = x + y := by
  unfold Go.bits
  simp only [BitVec.toNat_or, BitVec.toNat_ofInt]
  rw [show IntKind.i64.bits = 64 from rfl, or_low _ _ (by omega) (by omega)]
  rw [IntKind.wrap_i64]
  omega

/-- The value of the first n bytes, the highest one first. -/
def be (f : Nat → Int) : Nat → Int
  | 0 => 0
  | n + 1 => be f n * 256 + f n
theorem be_range (f : Nat → Int) (hf : ∀ i, 0 ≤ f i ∧ f i ≤ 255) : ∀ n, 0 ≤ be f n ∧ be f n < 256 ^ n
  | 0 => by simp [be]
  | n + 1 => by
    have h := be_range f hf n
    have h2 := hf n
    simp only [be, Int.pow_succ]
    omega
theorem be_congr {f g : Nat → Int} (n : Nat) (h : ∀ i, i < n → f i = g i) : be f n = be g n := by
  induction n with
  | zero => rfl
  | succ n ih => simp only [be]; rw [ih (fun i hi => h i (by omega)), h n (by omega)]
theorem wrap64_mod (x y : Int) (h : x % 18446744073709551616 = y % 18446744073709551616) : wrap64 x = wrap64 y := by
  unfold wrap64
  omega
/-- The int64 in the eight bytes from place p on. -/
def wordv (s : ByteArray) (p : Nat) : Int := wrap64 (be (fun i => bt s ((p + i : Nat) : Int)) 8)
theorem bt_extract (s : ByteArray) (a b i : Nat) (h : a + i < b) (hb : b ≤ s.size) : bt (s.extract a b) (i : Int) = bt s ((a + i : Nat) : Int) := by
  have h1 : i < (s.extract a b).size := by rw [ByteArray.size_extract]; omega
  have h2 : a + i < s.size := by omega
  rw [← bt_at _ _ (by rw [Int.toNat_natCast]; exact h1), ← bt_at _ _ (by rw [Int.toNat_natCast]; exact h2)]
  simp only [Int.toNat_natCast]
  rw [ByteArray.getElem_extract]
/-- A step of reading: shifted by a byte, the next one laid in. -/
theorem be_step_u64 (f : Nat → Int) (hf : ∀ i, 0 ≤ f i ∧ f i ≤ 255) (n : Nat) (hn : n < 8) : Go.bits .or .u64 (IntKind.u64.wrap (be f n * 256)) (IntKind.u64.wrap (f n)) = be f (n + 1) := by
  have hr := be_range f hf n
  have h2 := hf n
  have h3 : (256 : Int) ^ n ≤ 256 ^ 7 := by
    obtain rfl | rfl | rfl | rfl | rfl | rfl | rfl | rfl : n = 0 ∨ n = 1 ∨ n = 2 ∨ n = 3 ∨ n = 4 ∨ n = 5 ∨ n = 6 ∨ n = 7 := by omega
    all_goals decide
  have h4 : be f n < 72057594037927936 := by have : (256 : Int) ^ 7 = 72057594037927936 := by decide
                                             omega
  have hw : ∀ x : Int, 0 ≤ x → x < 18446744073709551616 → IntKind.u64.wrap x = x := by
    intro x hx0 hx1
    simp [IntKind.wrap, IntKind.bits, IntKind.signed]
    omega
  rw [hw _ (by omega) (by omega), hw _ (by omega) (by omega), or8_u64 _ _ (by omega) (by omega) (by omega) h2.1 (by omega)]
  rfl
theorem be_step_i64 (f : Nat → Int) (hf : ∀ i, 0 ≤ f i ∧ f i ≤ 255) (n : Nat) : Go.bits .or .i64 (wrap64 (wrap64 (be f n) * 256)) (wrap64 (f n)) = wrap64 (be f (n + 1)) := by
  have h2 := hf n
  have hr := wrap64_range (wrap64 (be f n) * 256)
  have e : wrap64 (wrap64 (be f n) * 256) = wrap64 (be f n * 256) := wrap64_mod _ _ (by unfold wrap64; omega)
  have hd : wrap64 (be f n * 256) % 256 = 0 := by unfold wrap64; omega
  rw [e] at hr ⊢
  rw [w64 (x := f n) (by omega) (by omega), or8_i64 _ _ hr.1 hr.2 hd h2.1 (by omega)]
  simp only [be]
  unfold wrap64
  omega
end Go.Proofs.YtbpeiilildchlaaGreatDoor.Abs
namespace Go.Proofs.YtbpeiilildchlaaGreatDoor.Abs.Pu
open Go Go.RowKit
set_option linter.unusedVariables false
set_option linter.unusedSectionVars false
set_option linter.unusedSimpArgs false
def byte8 (u : Int) (i : Nat) : Int := u / 2 ^ (56 - 8 * i) % 256
def wordL (u : Int) : List Int := [byte8 u 0, byte8 u 1, byte8 u 2, byte8 u 3, byte8 u 4, byte8 u 5, byte8 u 6, byte8 u 7]
def wordB (n : Int) : ByteArray := strOfNums (wordL (IntKind.u64.wrap n))
theorem wordB_size (n : Int) : (wordB n).size = 8 := by rw [wordB, strOfNums_size]; rfl
theorem wordL_isBytes (u : Int) : isBytes (wordL u) := by
  intro x hx
  simp only [wordL, List.mem_cons, List.not_mem_nil, or_false, byte8] at hx
  omega
theorem wrap_u64 (x : Int) : IntKind.u64.wrap x = x % 18446744073709551616 := by
  simp [IntKind.wrap, IntKind.bits, IntKind.signed]
theorem wordv_wordB (n : Int) (h0 : -9223372036854775808 ≤ n) (h1 : n ≤ 9223372036854775807) : wordv (wordB n) 0 = n := by
  have hb : ∀ i, bt (wordB n) ((0 + i : Nat) : Int) = (wordL (IntKind.u64.wrap n)).getD i 0 := by
    intro i
    rw [bt_bytesOf, wordB, bytesOf_strOfNums (wordL_isBytes _), Nat.zero_add]
  unfold wordv
  simp only [hb]
  rw [wrap_u64]
  generalize hu : n % 18446744073709551616 = u
  have hu0 : 0 ≤ u ∧ u < 18446744073709551616 := by omega
  have e : be (fun i => (wordL u).getD i 0) 8 = u := by
    simp only [be, wordL, List.getD_cons_zero, List.getD_cons_succ, byte8]
    simp only [Nat.mul_zero, Nat.sub_zero, Nat.reduceMul, Nat.reduceSub, Int.reducePow, Int.pow_zero, Int.ediv_one]
    omega
  rw [e]
  unfold wrap64
  omega
/-- An image with other bytes from a place on. -/
def replB (s : ByteArray) (p : Nat) (t : ByteArray) : ByteArray := (s.extract 0 p ++ t) ++ s.extract (p + t.size) s.size
theorem repl_size {s t : ByteArray} {p : Nat} (h : p + t.size ≤ s.size) : (replB s p t).size = s.size := by
  simp only [replB, ByteArray.size_append, ByteArray.size_extract]
  omega
theorem bytesOf_append (s t : ByteArray) : bytesOf (s ++ t) = bytesOf s ++ bytesOf t := by
  unfold bytesOf
  rw [ByteArray.data_append, Array.toList_append, List.map_append]
theorem bytesOf_cut (s : ByteArray) (a b : Nat) : bytesOf (s.extract a b) = ((bytesOf s).drop a).take (b - a) := by
  unfold bytesOf
  rw [ByteArray.data_extract, Array.toList_extract, List.extract_eq_take_drop, List.map_take, List.map_drop]
theorem bytesOf_repl {s t : ByteArray} {p : Nat} (h : p + t.size ≤ s.size) : bytesOf (replB s p t) = (bytesOf s).take p ++ (bytesOf t ++ (bytesOf s).drop (p + t.size)) := by
  unfold replB
  rw [bytesOf_append, bytesOf_append, bytesOf_cut, bytesOf_cut, List.drop_zero, Nat.sub_zero, List.append_assoc]
  rw [List.take_of_length_le (l := (bytesOf s).drop (p + t.size)) (by rw [List.length_drop, bytesOf_length]; omega)]
theorem bt_repl {s t : ByteArray} {p : Nat} (h : p + t.size ≤ s.size) (i : Nat) : bt (replB s p t) (i : Int) = if p ≤ i ∧ i < p + t.size then bt t ((i - p : Nat) : Int) else bt s (i : Int) := by
  rw [bt_bytesOf, bt_bytesOf, bt_bytesOf, bytesOf_repl h]
  have hl := bytesOf_length s
  have ht := bytesOf_length t
  have htk : ((bytesOf s).take p).length = p := by rw [List.length_take]; omega
  simp only [List.getD_eq_getElem?_getD]
  by_cases c0 : i < p
  · rw [if_neg (by omega), List.getElem?_append_left (by omega), List.getElem?_take_of_lt c0]
  · rw [List.getElem?_append_right (by omega), htk]
    by_cases c1 : i < p + t.size
    · rw [if_pos (by omega), List.getElem?_append_left (by omega)]
    · rw [if_neg (by omega), List.getElem?_append_right (by omega), List.getElem?_drop, show p + t.size + (i - p - (bytesOf t).length) = i from by omega]
theorem wordv_repl_same {s : ByteArray} {p : Nat} (n : Int) (h : p + 8 ≤ s.size) (h0 : -9223372036854775808 ≤ n) (h1 : n ≤ 9223372036854775807) : wordv (replB s p (wordB n)) p = n := by
  have e := wordv_wordB n h0 h1
  have hz := wordB_size n
  unfold wordv at e ⊢
  refine Eq.trans (congrArg wrap64 (be_congr 8 (fun i hi => ?_))) e
  rw [bt_repl (by omega), if_pos (by omega), show p + i - p = 0 + i from by omega]
theorem wordv_repl_other {s t : ByteArray} {p q : Nat} (h : p + t.size ≤ s.size) (hd : q + 8 ≤ p ∨ p + t.size ≤ q) : wordv (replB s p t) q = wordv s q := by
  unfold wordv
  refine congrArg wrap64 (be_congr 8 (fun i hi => ?_))
  rw [bt_repl h, if_neg (by omega)]
theorem extract_ext {s t : ByteArray} {a b : Nat} (hs : b ≤ s.size) (ht : b ≤ t.size) (h : ∀ i : Nat, a ≤ i → i < b → bt s (i : Int) = bt t (i : Int)) : s.extract a b = t.extract a b := by
  refine bytesOf_inj ?_
  rw [bytesOf_cut, bytesOf_cut]
  refine List.ext_getElem (by simp only [List.length_take, List.length_drop, bytesOf_length]; omega) fun i h1 h2 => ?_
  simp only [List.length_take, List.length_drop, bytesOf_length] at h1 h2
  have hi := h (a + i) (by omega) (by omega)
  rw [bt_bytesOf, bt_bytesOf, List.getD_eq_getElem?_getD, List.getD_eq_getElem?_getD, List.getElem?_eq_getElem (by rw [bytesOf_length]; omega), List.getElem?_eq_getElem (by rw [bytesOf_length]; omega)] at hi
  simpa using hi
theorem wordv_range (s : ByteArray) (p : Nat) : -9223372036854775808 ≤ wordv s p ∧ wordv s p ≤ 9223372036854775807 := wrap64_range _
end Go.Proofs.YtbpeiilildchlaaGreatDoor.Abs.Pu
namespace Go.Proofs.YtbpeiilildchlaaGreatDoor.Abs.Pu
open Go Go.RowKit
set_option linter.unusedVariables false
set_option linter.unusedSectionVars false
set_option linter.unusedSimpArgs false
/-- An object of valid types, its references such that p holds. -/
def objW (p : Int → Bool) (types : List ByteArray) (o : Int × List Int) : Bool :=
  (decide (0 ≤ o.1) && decide (o.1 ≤ (types.length : Int) - 1)) && (decide (o.2.length = (rdOf ByteArray.empty types o.1).size) && refsB p (rdOf ByteArray.empty types o.1) 0 o.2)
theorem type_size {types : List ByteArray} (ht : typesOk types = true) (t : Int) : (rdOf ByteArray.empty types t).size ≤ 23 := by
  unfold typesOk at ht
  rw [Bool.and_eq_true, List.all_eq_true] at ht
  unfold rdOf
  by_cases h : t.toNat < types.length
  · have := ht.2 _ (List.getElem_mem h)
    rw [List.getD_eq_getElem?_getD, List.getElem?_eq_getElem h]
    unfold typeOk at this
    simp only [Bool.and_eq_true, decide_eq_true_eq] at this
    exact this.1.2
  · rw [List.getD_eq_getElem?_getD, List.getElem?_eq_none (by omega)]
    exact Nat.zero_le _
theorem types_len {types : List ByteArray} (ht : typesOk types = true) : 1 ≤ types.length ∧ types.length ≤ 12 := by
  unfold typesOk at ht
  rw [Bool.and_eq_true] at ht
  simpa using ht.1
end Go.Proofs.YtbpeiilildchlaaGreatDoor.Abs.Pu
namespace Go.Proofs.YtbpeiilildchlaaGreatDoor.Abs.Pu
open Go Go.RowKit
set_option linter.unusedVariables false
set_option linter.unusedSectionVars false
set_option linter.unusedSimpArgs false
/-- The bytes of words. -/
def WL : List Int → List Int
  | [] => []
  | n :: l => wordL (IntKind.u64.wrap n) ++ WL l
theorem wordL_length (u : Int) : (wordL u).length = 8 := rfl
theorem WL_length : ∀ l : List Int, (WL l).length = 8 * l.length
  | [] => rfl
  | n :: l => by rw [WL, List.length_append, wordL_length, WL_length l, List.length_cons]; omega
theorem WL_append : ∀ a b : List Int, WL (a ++ b) = WL a ++ WL b
  | [], _ => rfl
  | n :: a, b => by rw [List.cons_append, WL, WL, WL_append a b, List.append_assoc]
theorem WL_isBytes : ∀ l : List Int, isBytes (WL l)
  | [], x, hx => by cases hx
  | n :: l, x, hx => by
    rw [WL, List.mem_append] at hx
    rcases hx with hx | hx
    · exact wordL_isBytes _ x hx
    · exact WL_isBytes l x hx
theorem strOfNums_append (a b : List Int) : strOfNums (a ++ b) = strOfNums a ++ strOfNums b := by
  unfold strOfNums
  rw [List.map_append]
  apply ByteArray.ext
  rw [ByteArray.data_append]
  simp
theorem isBytes_append {a b : List Int} (ha : isBytes a) (hb : isBytes b) : isBytes (a ++ b) := fun x hx => by
  rcases List.mem_append.1 hx with hx | hx
  · exact ha x hx
  · exact hb x hx
/-- A word among words. -/
theorem wordv_WL (pre post z : List Int) (n : Int) (hz : isBytes z) (h0 : -9223372036854775808 ≤ n) (h1 : n ≤ 9223372036854775807) : wordv (strOfNums (WL (pre ++ n :: post) ++ z)) (8 * pre.length) = n := by
  have e := wordv_wordB n h0 h1
  unfold wordv at e ⊢
  refine Eq.trans (congrArg wrap64 (be_congr 8 (fun i hi => ?_))) e
  rw [bt_bytesOf, bt_bytesOf, bytesOf_strOfNums (isBytes_append (WL_isBytes _) hz), wordB, bytesOf_strOfNums (wordL_isBytes _), WL_append, WL, Nat.zero_add]
  simp only [List.getD_eq_getElem?_getD]
  rw [List.append_assoc, List.getElem?_append_right (by rw [WL_length]; omega), WL_length, show 8 * pre.length + i - 8 * pre.length = i from by omega, List.append_assoc, List.getElem?_append_left (by rw [wordL_length]; exact hi)]
/-- The lines of an object of a type. -/
def runL (types : List ByteArray) (t : Int) : Nat := ((rdOf ByteArray.empty types t).size + 8) / 8
def objB8 (types : List ByteArray) (o : Int × List Int) : ByteArray := strOfNums (WL ((o.1 + 1) :: o.2) ++ List.replicate (64 * runL types o.1 - 8 * (o.2.length + 1)) 0)
def okRef8 (x : Int) : Bool := true
theorem runL_bound {types : List ByteArray} (ht : typesOk types = true) (t : Int) : 1 ≤ runL types t ∧ runL types t ≤ 3 ∧ (rdOf ByteArray.empty types t).size + 1 ≤ 8 * runL types t := by
  have := type_size ht t
  unfold runL
  omega
theorem objB8_size {types : List ByteArray} {o : Int × List Int} (ht : typesOk types = true) (h : o.2.length = (rdOf ByteArray.empty types o.1).size) : (objB8 types o).size = 64 * runL types o.1 := by
  have := runL_bound ht o.1
  rw [objB8, strOfNums_size, List.length_append, WL_length, List.length_cons, List.length_replicate]
  omega
theorem objB8_head {types : List ByteArray} {o : Int × List Int} (h0 : 0 ≤ o.1) (h1 : o.1 ≤ 100) : wordv (objB8 types o) 0 = o.1 + 1 :=
  wordv_WL [] o.2 _ (o.1 + 1) (isBytes_replicate _) (by omega) (by omega)
theorem objB8_val {types : List ByteArray} {o : Int × List Int} (i : Nat) (h : i < o.2.length) (hi : ∀ x ∈ o.2, -9223372036854775808 ≤ x ∧ x ≤ 9223372036854775807) : wordv (objB8 types o) (8 + 8 * i) = o.2[i] := by
  have hx := hi _ (List.getElem_mem h)
  have hs : o.2 = o.2.take i ++ o.2[i] :: o.2.drop (i + 1) := by
    rw [← List.drop_eq_getElem_cons h, List.take_append_drop]
  have := wordv_WL ((o.1 + 1) :: o.2.take i) (o.2.drop (i + 1)) (List.replicate (64 * runL types o.1 - 8 * (o.2.length + 1)) 0) o.2[i] (isBytes_replicate _) hx.1 hx.2
  rw [List.cons_append, ← hs, List.length_cons, List.length_take, show 8 * (min i o.2.length + 1) = 8 + 8 * i from by omega] at this
  exact this
/-- The values that stand in bytes. -/
def valsOf (s : ByteArray) (n : Nat) : List Int := (List.range n).map fun i => wordv s (8 + 8 * i)
theorem valsOf_objB8 {types : List ByteArray} {o : Int × List Int} (hi : ∀ x ∈ o.2, -9223372036854775808 ≤ x ∧ x ≤ 9223372036854775807) : valsOf (objB8 types o) o.2.length = o.2 := by
  refine List.ext_getElem (by simp [valsOf]) (fun i h1 h2 => ?_)
  simp only [valsOf, List.getElem_map, List.getElem_range]
  exact objB8_val i h2 hi
end Go.Proofs.YtbpeiilildchlaaGreatDoor.Abs.Pu
namespace Go.Proofs.YtbpeiilildchlaaGreatDoor.Abs
open Go Go.RowKit
set_option linter.unusedVariables false
set_option linter.unusedSectionVars false
set_option linter.unusedSimpArgs false

def refk (a : Int) : Int := if a = 0 then 0 else if 2 ≤ a ∧ a ≤ 254 ∧ a % 2 = 0 then 1 else if 1 ≤ a ∧ a ≤ 799 ∧ a % 2 = 1 then 2 else -1
theorem refk_cases (a : Int) : refk a = 0 ∨ refk a = 1 ∨ refk a = 2 ∨ refk a = -1 := by
  unfold refk
  repeat' split
  all_goals simp
theorem tmod2 {a : Int} (h : 0 ≤ a) : Int.tmod a 2 = a % 2 := Int.tmod_eq_emod_of_nonneg h
theorem refKind_body (a : Int) (w : Int → Int → Int → Option Bool) (hw : ∀ a lo hi, w a lo hi = some (decide (lo ≤ a) && decide (a ≤ hi))) :
    (if a = 0 then (some 0) else ((w a 2 254).bind fun t1 => (if t1 = true then (if (Int.tmod a 2) = 0 then (some 1) else ((w a 1 799).bind fun t2 => (if t2 = true then (if (Int.tmod a 2) = 1 then (some 2) else (some (-1))) else (some (-1))))) else ((w a 1 799).bind fun t3 => (if t3 = true then (if (Int.tmod a 2) = 1 then (some 2) else (some (-1))) else (some (-1))))))) = some (refk a) := by
  simp only [hw, Option.bind_some, Bool.and_eq_true, decide_eq_true_eq]
  unfold refk
  by_cases ha : 0 ≤ a
  · simp only [tmod2 ha]
    (repeat' split) <;> first | rfl | (exfalso; omega)
  · (repeat' split) <;> first | rfl | (exfalso; omega)
theorem spec_RefKind_f (a : Int) : spec_RefKind.f a = some (refk a) := refKind_body a spec_l1In.f l1In_f
theorem impl_RefKind_f (a : Int) : impl_RefKind.f a = some (refk a) := refKind_body a impl_within.f within_f
end Go.Proofs.YtbpeiilildchlaaGreatDoor.Abs
namespace Go.Proofs.YtbpeiilildchlaaGreatDoor.Abs.Pu
open Go Go.RowKit
set_option linter.unusedVariables false
set_option linter.unusedSectionVars false
set_option linter.unusedSimpArgs false
def okRf (x : Int) : Bool := decide (refk x ≥ 0)
def objOk8 (types : List ByteArray) (o : Int × List Int) : Bool := typesOk types && objW okRf types o
def bytesR (types : List ByteArray) (o : Int × List Int) : ByteArray := if objOk8 types o = true then objB8 types o else ByteArray.empty
def readO (types : List ByteArray) (s : ByteArray) : Int × List Int := (wordv s 0 - 1, valsOf s (rdOf ByteArray.empty types (wordv s 0 - 1)).size)
def readR (types : List ByteArray) (s : ByteArray) : (Int × List Int) × Bool :=
  if typesOk types = true ∧ 64 ≤ s.size ∧ (1 ≤ wordv s 0 ∧ wordv s 0 ≤ types.length) ∧ s.size = 64 * runL types (wordv s 0 - 1) ∧ bytesR types (readO types s) = s then (readO types s, true) else ((0, []), false)
theorem objOk8_facts {types : List ByteArray} {o : Int × List Int} (h : objOk8 types o = true) : typesOk types = true ∧ 0 ≤ o.1 ∧ o.1 < types.length ∧ types.length ≤ 12 ∧ o.2.length = (rdOf ByteArray.empty types o.1).size ∧ o.2.length ≤ 23 ∧ refsB okRf (rdOf ByteArray.empty types o.1) 0 o.2 = true := by
  unfold objOk8 objW at h
  simp only [Bool.and_eq_true, decide_eq_true_eq] at h
  have := type_size h.1 o.1
  have := types_len h.1
  exact ⟨h.1, h.2.1.1, by omega, by omega, h.2.2.1, by omega, h.2.2.2⟩
theorem readR_yes {types : List ByteArray} {s : ByteArray} (h : (readR types s).2 = true) : (readR types s).1 = readO types s ∧ bytesR types (readO types s) = s ∧ objOk8 types (readO types s) = true ∧ s.size = 64 * runL types (wordv s 0 - 1) ∧ 64 ≤ s.size := by
  unfold readR at h ⊢
  split at h
  · rename_i c
    rw [if_pos c]
    refine ⟨rfl, c.2.2.2.2, ?_, c.2.2.2.1, c.2.1⟩
    by_cases e : objOk8 types (readO types s) = true
    · exact e
    · have h2 := c.2.2.2.2
      unfold bytesR at h2
      rw [if_neg e] at h2
      have h3 := c.2.1
      rw [← h2] at h3
      exact absurd h3 (by decide)
  · cases h
theorem readO_bytes {types : List ByteArray} {o : Int × List Int} (h : objOk8 types o = true) (hi : ∀ x ∈ o.2, -9223372036854775808 ≤ x ∧ x ≤ 9223372036854775807) : readO types (objB8 types o) = o ∧ wordv (objB8 types o) 0 = o.1 + 1 := by
  obtain ⟨ht, h0, h1, h2, h3, h4, h5⟩ := objOk8_facts h
  have hh := objB8_head (types := types) h0 (by omega)
  refine ⟨?_, hh⟩
  unfold readO
  rw [hh, show o.1 + 1 - 1 = o.1 from by omega, ← h3, valsOf_objB8 hi]
/-- What was written is read. -/
theorem readR_bytes {types : List ByteArray} {o : Int × List Int} (h : objOk8 types o = true) (hi : ∀ x ∈ o.2, -9223372036854775808 ≤ x ∧ x ≤ 9223372036854775807) : readR types (bytesR types o) = (o, true) := by
  obtain ⟨ht, h0, h1, h2, h3, h4, h5⟩ := objOk8_facts h
  obtain ⟨e1, e2⟩ := readO_bytes h hi
  have hz := objB8_size ht h3
  have hr := runL_bound ht o.1
  have hb : bytesR types o = objB8 types o := by unfold bytesR; rw [if_pos h]
  rw [hb]
  unfold readR
  rw [if_pos ⟨ht, by omega, by omega, by rw [e2, show o.1 + 1 - 1 = o.1 from by omega]; exact hz, by rw [e1]; exact hb⟩, e1]
theorem readR_none (types : List ByteArray) : readR types ByteArray.empty = ((0, []), false) := by
  unfold readR
  rw [if_neg (fun h => absurd h.2.1 (by decide))]
theorem readR_length (types : List ByteArray) (s : ByteArray) : (readR types s).1.2.length ≤ 23 := by
  by_cases h : (readR types s).2 = true
  · have h2 := readR_yes h
    rw [h2.1]
    exact (objOk8_facts h2.2.2.1).2.2.2.2.2.1
  · unfold readR at h ⊢
    split
    · rename_i c
      rw [if_pos c] at h
      exact absurd rfl h
    · exact Nat.zero_le _
end Go.Proofs.YtbpeiilildchlaaGreatDoor.Abs.Pu
namespace Go.Proofs.YtbpeiilildchlaaGreatDoor.Abs.Pu
open Go Go.RowKit
set_option linter.unusedVariables false
set_option linter.unusedSectionVars false
set_option linter.unusedSimpArgs false
def isImageB (c : Cfg) (s : ByteArray) : Bool := configOk c && decide ((s.size : Int) = 64 * c.1)
theorem impl_isImage_ev (c : Cfg) (s : ByteArray) (hs : ∀ x ∈ c.2.2.2, x.size ≤ 1048576) : Ev (fun k => impl_isImage.f k c.1 c.2.1 c.2.2.1 c.2.2.2 s) (isImageB c s) := by
  unfold impl_isImage.f isImageB
  refine Ev.bind (impl_ConfigOk_ev c hs) (Ev.cases (fun h => ?_) (fun h => by rw [Bool.eq_false_iff.2 h, Bool.false_and]; exact Ev.eq rfl))
  have := configOk_facts h
  rw [h, Bool.true_and, w64 (x := 64 * c.1) (by omega) (by omega)]
  exact Ev.eq rfl
theorem spec_l5Image_ev (c : Cfg) (s : ByteArray) (hl : c.2.2.2.length ≤ 1048576) (hs : ∀ x ∈ c.2.2.2, x.size ≤ 1048576) : Ev (fun k => spec_l5Image.f k c.1 c.2.1 c.2.2.1 c.2.2.2 s) (isImageB c s) := by
  unfold spec_l5Image.f isImageB
  refine Ev.bind (spec_ConfigOk_ev c hl hs) (Ev.cases (fun h => ?_) (fun h => by rw [Bool.eq_false_iff.2 h, Bool.false_and]; exact Ev.eq rfl))
  have := configOk_facts h
  rw [h, Bool.true_and, w64 (x := 64 * c.1) (by omega) (by omega)]
  exact Ev.eq rfl
theorem isImageB_facts {c : Cfg} {s : ByteArray} (h : isImageB c s = true) : configOk c = true ∧ (s.size : Int) = 64 * c.1 := by
  unfold isImageB at h
  simpa using h
end Go.Proofs.YtbpeiilildchlaaGreatDoor.Abs.Pu
namespace Go.Proofs.YtbpeiilildchlaaGreatDoor.Abs.Pu
open Go Go.RowKit
set_option linter.unusedVariables false
set_option linter.unusedSectionVars false
set_option linter.unusedSimpArgs false
theorem bt_byte (s : ByteArray) : ∀ p i : Nat, 0 ≤ bt s ((p + i : Nat) : Int) ∧ bt s ((p + i : Nat) : Int) ≤ 255 := fun p i => bt_range s _
theorem spec_ReadWord_ev (s : ByteArray) (h : s.size = 8) : Ev (fun k => spec_ReadWord.f k s) (wordv s 0, true) := by
  have key : ∀ i, i ≤ 8 → Ev (fun k => spec_ReadWord.p16 k s (be (fun i => bt s ((0 + i : Nat) : Int)) i) (i : Int)) (wordv s 0, true) := by
    refine down ?_ ?_
    · refine Ev.step (fun k => by rw [spec_ReadWord.p16]) ?_
      exact Ev.neg (by omega) (Ev.eq rfl)
    · intro i hi ih
      refine Ev.step (fun k => by rw [spec_ReadWord.p16]) ?_
      refine Ev.pos (by omega) (Ev.pos (by omega) (Ev.pos (by omega) ?_))
      have e := be_step_u64 (fun i => bt s ((0 + i : Nat) : Int)) (fun i => bt_byte s 0 i) i (by omega)
      simp only [Nat.zero_add] at e ih ⊢
      rw [byteAt_eq, orA_eq, shl8_u64, e, w64s (i := i) (by omega)]
      exact ih
  unfold spec_ReadWord.f
  exact Ev.pos (by omega) (key 0 (by omega))
theorem impl_wordAt_ev (s : ByteArray) (p : Nat) (h : p + 8 ≤ s.size) (hs : s.size ≤ 140737488355328) : Ev (fun k => impl_wordAt.f k s (p : Int)) (wordv s p) := by
  have key : ∀ i, i ≤ 8 → Ev (fun k => impl_wordAt.p8 k s (p : Int) (wrap64 (be (fun i => bt s ((p + i : Nat) : Int)) i)) (i : Int)) (wordv s p) := by
    refine down ?_ ?_
    · refine Ev.step (fun k => by rw [impl_wordAt.p8]) ?_
      exact Ev.neg (by omega) (Ev.eq rfl)
    · intro i hi ih
      refine Ev.step (fun k => by rw [impl_wordAt.p8]) ?_
      rw [show wrap64 ((p : Int) + (i : Int)) = ((p + i : Nat) : Int) from by rw [w64 (by omega) (by omega)]; omega]
      refine Ev.pos (by omega) (Ev.pos (by omega) (Ev.pos (by omega) ?_))
      have e := be_step_i64 (fun i => bt s ((p + i : Nat) : Int)) (fun i => bt_byte s p i) i
      rw [byteAt_eq, orA_eq, shl8_i64, e, w64s (i := i) (by omega)]
      exact ih
  unfold impl_wordAt.f
  have h := key 0 (by omega)
  rwa [show wrap64 (be (fun i => bt s ((p + i : Nat) : Int)) 0) = 0 from by simp only [be]; exact w64 (by omega) (by omega)] at h
theorem wordv_extract (s : ByteArray) (p : Nat) (h : p + 8 ≤ s.size) : wordv (s.extract p (p + 8)) 0 = wordv s p := by
  unfold wordv
  refine congrArg wrap64 (be_congr 8 (fun i hi => ?_))
  rw [Nat.zero_add]
  exact bt_extract s p (p + 8) i (by omega) h
end Go.Proofs.YtbpeiilildchlaaGreatDoor.Abs.Pu
namespace Go.Proofs.YtbpeiilildchlaaGreatDoor.Abs.Pu
open Go Go.RowKit
set_option linter.unusedVariables false
set_option linter.unusedSectionVars false
set_option linter.unusedSimpArgs false
/-- A line of data. -/
def isDataB (c : Cfg) (line : Int) : Bool := decide (4 + c.2.1 ≤ line) && decide (line ≤ c.1 - 1)
def dataRefB (c : Cfg) (x : Int) : Bool := decide (x = 0) || (decide (refk x = 1) && isDataB c (x / 2))
theorem impl_isData_f (c : Cfg) (h : configOk c = true) (line : Int) : impl_isData.f c.1 c.2.1 c.2.2.1 c.2.2.2 line = some (isDataB c line) := by
  have := configOk_facts h
  unfold impl_isData.f isDataB
  rw [w64 (x := 4 + c.2.1) (by omega) (by omega), w64 (x := c.1 - 1) (by omega) (by omega), within_f]
  rfl
theorem spec_l10Line_f (c : Cfg) (h : configOk c = true) (line : Int) : spec_l10Line.f c.1 c.2.1 c.2.2.1 c.2.2.2 line = some (isDataB c line) := by
  have := configOk_facts h
  unfold spec_l10Line.f isDataB
  rw [w64 (x := 4 + c.2.1) (by omega) (by omega), w64 (x := c.1 - 1) (by omega) (by omega), l1In_f]
  rfl
theorem refk_one {x : Int} (h : refk x = 1) : 2 ≤ x ∧ x ≤ 254 ∧ x % 2 = 0 := by
  unfold refk at h
  split at h
  · omega
  · split at h
    · omega
    · split at h
      · omega
      · omega
theorem impl_isDataRef_f (c : Cfg) (h : configOk c = true) (x : Int) : impl_isDataRef.f c.1 c.2.1 c.2.2.1 c.2.2.2 x = some (dataRefB c x) := by
  unfold impl_isDataRef.f dataRefB impl_isOld.f
  by_cases c0 : x = 0
  · rw [if_pos c0, decide_eq_true c0, Bool.true_or]
  · rw [if_neg c0, decide_eq_false c0, Bool.false_or, impl_RefKind_f, Option.bind_some, Option.bind_some]
    by_cases c1 : refk x = 1
    · have := refk_one c1
      rw [if_pos (by simpa using c1), Int.tdiv_eq_ediv_of_nonneg (by omega), w64 (x := x / 2) (by omega) (by omega), impl_isData_f c h, decide_eq_true c1]
      rfl
    · rw [if_neg (by simpa using c1), decide_eq_false c1]
      rfl
theorem spec_l10Ref_f (c : Cfg) (h : configOk c = true) (x : Int) : spec_l10Ref.f c.1 c.2.1 c.2.2.1 c.2.2.2 x = some (dataRefB c x) := by
  unfold spec_l10Ref.f dataRefB
  by_cases c0 : x = 0
  · rw [if_pos c0, decide_eq_true c0, Bool.true_or]
  · rw [if_neg c0, decide_eq_false c0, Bool.false_or, spec_RefKind_f, Option.bind_some]
    by_cases c1 : refk x = 1
    · have := refk_one c1
      rw [if_pos c1, Int.tdiv_eq_ediv_of_nonneg (by omega), w64 (x := x / 2) (by omega) (by omega), spec_l10Line_f c h, decide_eq_true c1]
      rfl
    · rw [if_neg c1, decide_eq_false c1]
      rfl
end Go.Proofs.YtbpeiilildchlaaGreatDoor.Abs.Pu
namespace Go.Proofs.YtbpeiilildchlaaGreatDoor.Abs.Pu
open Go Go.RowKit
set_option linter.unusedVariables false
set_option linter.unusedSectionVars false
set_option linter.unusedSimpArgs false
def typeAt (image : ByteArray) (line : Int) : Int := wordv image (64 * line.toNat) - 1
def partAt (c : Cfg) (image : ByteArray) (line : Int) : ByteArray := image.extract (64 * line.toNat) (64 * (line.toNat + runL c.2.2.2 (typeAt image line)))
def oldR (c : Cfg) (image : ByteArray) (line : Int) : (Int × List Int) × Bool :=
  if isDataB c line = true ∧ (0 ≤ typeAt image line ∧ typeAt image line < c.2.2.2.length) ∧ line + runL c.2.2.2 (typeAt image line) ≤ c.1 ∧ (readR c.2.2.2 (partAt c image line)).2 = true ∧ refsB (dataRefB c) (rdOf ByteArray.empty c.2.2.2 (readR c.2.2.2 (partAt c image line)).1.1) 0 (readR c.2.2.2 (partAt c image line)).1.2 = true
  then ((readR c.2.2.2 (partAt c image line)).1, true) else ((0, []), false)
theorem oldR_length (c : Cfg) (image : ByteArray) (line : Int) : (oldR c image line).1.2.length ≤ 23 := by
  unfold oldR
  split
  · exact readR_length _ _
  · exact Nat.zero_le _
theorem isDataB_facts {c : Cfg} {line : Int} (h : isDataB c line = true) : 4 + c.2.1 ≤ line ∧ line ≤ c.1 - 1 := by
  unfold isDataB at h
  simpa using h
/-- What is so of an object that is found. -/
theorem oldR_yes {c : Cfg} {image : ByteArray} {line : Int} (hc : configOk c = true) (hz : (image.size : Int) = 64 * c.1) (h : (oldR c image line).2 = true) :
    isDataB c line = true ∧ objOk8 c.2.2.2 (oldR c image line).1 = true ∧ line + runL c.2.2.2 (oldR c image line).1.1 ≤ c.1 ∧ refsB (dataRefB c) (rdOf ByteArray.empty c.2.2.2 (oldR c image line).1.1) 0 (oldR c image line).1.2 = true := by
  have hf := configOk_facts hc
  by_cases k : isDataB c line = true ∧ (0 ≤ typeAt image line ∧ typeAt image line < c.2.2.2.length) ∧ line + runL c.2.2.2 (typeAt image line) ≤ c.1 ∧ (readR c.2.2.2 (partAt c image line)).2 = true ∧ refsB (dataRefB c) (rdOf ByteArray.empty c.2.2.2 (readR c.2.2.2 (partAt c image line)).1.1) 0 (readR c.2.2.2 (partAt c image line)).1.2 = true
  · have e : oldR c image line = ((readR c.2.2.2 (partAt c image line)).1, true) := by unfold oldR; rw [if_pos k]
    rw [e]
    simp only []
    obtain ⟨k1, k2, k3, k4, k5⟩ := k
    obtain ⟨r1, r2, r3, r4, r5⟩ := readR_yes k4
    have hd := isDataB_facts k1
    have ht : typesOk c.2.2.2 = true := hf.2.2.2.2.2.2.2
    have hb := runL_bound ht (typeAt image line)
    have hw : wordv (partAt c image line) 0 = typeAt image line + 1 := by
      unfold partAt typeAt
      have e8 : (image.extract (64 * line.toNat) (64 * (line.toNat + runL c.2.2.2 (wordv image (64 * line.toNat) - 1)))) = image.extract (64 * line.toNat) (64 * (line.toNat + runL c.2.2.2 (typeAt image line))) := rfl
      rw [show wordv image (64 * line.toNat) - 1 + 1 = wordv image (64 * line.toNat) from by omega, e8]
      unfold wordv
      refine congrArg wrap64 (be_congr 8 (fun i hi => ?_))
      rw [Nat.zero_add]
      exact bt_extract image (64 * line.toNat) _ i (by omega) (by omega)
    have ht1 : (readO c.2.2.2 (partAt c image line)).1 = typeAt image line := by
      unfold readO
      simp only []
      rw [hw]; omega
    rw [r1] at k5 ⊢
    refine ⟨k1, r3, ?_, k5⟩
    rw [ht1]; exact k3
  · unfold oldR at h
    rw [if_neg k] at h
    cases h
end Go.Proofs.YtbpeiilildchlaaGreatDoor.Abs.Pu
namespace Go.Proofs.YtbpeiilildchlaaGreatDoor.Abs.Pu
open Go Go.RowKit
set_option linter.unusedVariables false
set_option linter.unusedSectionVars false
set_option linter.unusedSimpArgs false
def seeL (ls : List Int) (v : Int) : List Int := if v ≠ 0 ∧ v / 2 ∉ ls then ls ++ [v / 2] else ls
def vlsS (t : ByteArray) : Nat → List Int → List Int → List Int
  | _, [], ls => ls
  | i, v :: l, ls => if bt t (i : Int) = 114 then vlsS t (i + 1) l (seeL ls v) else vlsS t (i + 1) l ls
def kdO (c : Cfg) (o : Int × List Int) : ByteArray := rdOf ByteArray.empty c.2.2.2 o.1
def runO (c : Cfg) (o : Int × List Int) : Nat := runL c.2.2.2 o.1
def walkF (c : Cfg) (image : ByteArray) : Nat → Nat → List Int → List (Int × List Int) → ByteArray → Option (List Int × List (Int × List Int) × ByteArray)
  | 0, _, ls, os, m => some (ls, os, m)
  | d + 1, i, ls, os, m =>
    if i < ls.length then (if (oldR c image (rd ls (i : Int))).2 = true then (if (runResult m true (rd ls (i : Int)) (runO c (oldR c image (rd ls (i : Int))).1)).2 = true then walkF c image d (i + 1) (vlsS (kdO c (oldR c image (rd ls (i : Int))).1) 0 (oldR c image (rd ls (i : Int))).1.2 ls) (os ++ [(oldR c image (rd ls (i : Int))).1]) (runResult m true (rd ls (i : Int)) (runO c (oldR c image (rd ls (i : Int))).1)).1 else none) else none) else some (ls, os, m)
def walkR (c : Cfg) (image : ByteArray) (refs : List Int) : Option (List Int × List (Int × List Int) × ByteArray) :=
  if isImageB c image = true ∧ refs.all (dataRefB c) = true then walkF c image 129 0 (refs.foldl seeL []) [] (zerosB 64) else none
/-- Lines of data, each once. -/
structure LInv (c : Cfg) (ls : List Int) : Prop where
  nd : ls.Nodup
  ok : ∀ x ∈ ls, isDataB c x = true
theorem dataRef_facts {c : Cfg} {v : Int} (h : dataRefB c v = true) (h0 : v ≠ 0) : isDataB c (v / 2) = true ∧ 2 ≤ v ∧ v ≤ 254 ∧ v % 2 = 0 := by
  unfold dataRefB at h
  rw [decide_eq_false h0, Bool.false_or, Bool.and_eq_true, decide_eq_true_eq] at h
  exact ⟨h.2, refk_one h.1⟩
theorem LInv.see {c : Cfg} {ls : List Int} (h : LInv c ls) {v : Int} (hv : dataRefB c v = true) : LInv c (seeL ls v) := by
  unfold seeL
  split
  · rename_i k
    refine ⟨List.nodup_append.2 ⟨h.nd, by simp, fun a ha b hb => by
      simp only [List.mem_singleton] at hb
      subst hb
      exact fun e => k.2 (e ▸ ha)⟩, fun x hx => ?_⟩
    rcases List.mem_append.1 hx with hx | hx
    · exact h.ok x hx
    · simp only [List.mem_singleton] at hx
      subst hx
      exact (dataRef_facts hv k.1).1
  · exact h
theorem LInv.vals {c : Cfg} (t : ByteArray) : ∀ (l : List Int) (i : Nat) {ls : List Int}, LInv c ls → refsB (dataRefB c) t i l = true → LInv c (vlsS t i l ls)
  | [], _, _, h, _ => h
  | v :: l, i, ls, h, hr => by
    rw [vlsS]
    rw [refsB] at hr
    split
    · rename_i k
      rw [if_pos k, Bool.and_eq_true] at hr
      exact LInv.vals t l (i + 1) (h.see hr.1) hr.2
    · rename_i k
      rw [if_neg k] at hr
      exact LInv.vals t l (i + 1) h hr
theorem LInv.fold {c : Cfg} : ∀ (l : List Int) {ls : List Int}, LInv c ls → (∀ x ∈ l, dataRefB c x = true) → LInv c (l.foldl seeL ls)
  | [], _, h, _ => h
  | v :: l, ls, h, hl => LInv.fold l (h.see (hl v (by simp))) (fun x hx => hl x (List.mem_cons_of_mem _ hx))
theorem nodup_len : ∀ (l m : List Int), l.Nodup → (∀ x ∈ l, x ∈ m) → l.length ≤ m.length
  | [], m, _, _ => Nat.zero_le _
  | x :: l, m, hn, h => by
    have hx := h x (by simp)
    rw [List.nodup_cons] at hn
    have h1 := nodup_len l (m.erase x) hn.2 (fun y hy => by
      have hne : y ≠ x := fun e => hn.1 (e ▸ hy)
      exact (List.mem_erase_of_ne hne).2 (h y (by simp [hy])))
    have h2 := List.length_erase_of_mem hx
    have h3 := List.length_pos_of_mem hx
    simp only [List.length_cons]
    omega
theorem LInv.len {c : Cfg} (hc : configOk c = true) {ls : List Int} (h : LInv c ls) : ls.length ≤ 128 := by
  have hf := configOk_facts hc
  have := nodup_len ls ((List.range 128).map fun n : Nat => (n : Int)) h.nd (fun x hx => by
    have := isDataB_facts (h.ok x hx)
    exact List.mem_map.2 ⟨x.toNat, List.mem_range.2 (by omega), by omega⟩)
  simpa using this
theorem see_pre (ls : List Int) (v : Int) : ∃ k, seeL ls v = ls ++ k := by
  unfold seeL
  split
  · exact ⟨_, rfl⟩
  · exact ⟨[], by simp⟩
theorem vls_pre (t : ByteArray) : ∀ (l : List Int) (i : Nat) (ls : List Int), ∃ k, vlsS t i l ls = ls ++ k
  | [], _, _ => ⟨[], by simp [vlsS]⟩
  | v :: l, i, ls => by
    rw [vlsS]
    split
    · obtain ⟨k1, h1⟩ := see_pre ls v
      obtain ⟨k2, h2⟩ := vls_pre t l (i + 1) (seeL ls v)
      exact ⟨k1 ++ k2, by rw [h2, h1, List.append_assoc]⟩
    · exact vls_pre t l (i + 1) ls
theorem walk_pre {c : Cfg} {image : ByteArray} : ∀ (d i : Nat) (ls : List Int) (os : List (Int × List Int)) (m : ByteArray) {L O M}, walkF c image d i ls os m = some (L, O, M) → (∃ k, L = ls ++ k) ∧ ∃ k, O = os ++ k
  | 0, i, ls, os, m, L, O, M, h => by
    rw [walkF] at h
    injection h with h
    injection h with h1 h2
    injection h2 with h2 h3
    exact ⟨⟨[], by simp [h1]⟩, ⟨[], by simp [h2]⟩⟩
  | d + 1, i, ls, os, m, L, O, M, h => by
    rw [walkF] at h
    split at h
    · split at h
      · split at h
        · obtain ⟨⟨k1, h1⟩, ⟨k2, h2⟩⟩ := walk_pre d (i + 1) _ _ _ h
          obtain ⟨k3, h3⟩ := vls_pre (kdO c (oldR c image (rd ls (i : Int))).1) (oldR c image (rd ls (i : Int))).1.2 0 ls
          exact ⟨⟨k3 ++ k1, by rw [h1, h3, List.append_assoc]⟩, ⟨_ :: k2, by rw [h2, List.append_assoc]; rfl⟩⟩
        · cases h
      · cases h
    · injection h with h
      injection h with h1 h2
      injection h2 with h2 h3
      exact ⟨⟨[], by simp [h1]⟩, ⟨[], by simp [h2]⟩⟩
end Go.Proofs.YtbpeiilildchlaaGreatDoor.Abs.Pu
namespace Go.Proofs.YtbpeiilildchlaaGreatDoor.Abs.Pu
open Go Go.RowKit
set_option linter.unusedVariables false
set_option linter.unusedSectionVars false
set_option linter.unusedSimpArgs false
def linesR (l : Int) (n : Nat) : List Int := (List.range n).map fun k : Nat => l + (k : Int)
theorem mem_linesR {l x : Int} {n : Nat} : x ∈ linesR l n ↔ l ≤ x ∧ x < l + n := by
  unfold linesR
  rw [List.mem_map]
  refine ⟨fun ⟨k, hk, e⟩ => by rw [List.mem_range] at hk; omega, fun h => ⟨(x - l).toNat, List.mem_range.2 (by omega), by omega⟩⟩
theorem linesR_nodup (l : Int) (n : Nat) : (linesR l n).Nodup := by
  unfold linesR
  rw [List.Nodup, List.pairwise_map]
  exact List.nodup_range.imp (fun h => by omega)
theorem linesR_length (l : Int) (n : Nat) : (linesR l n).length = n := by simp [linesR]
/-- The lines that objects take. -/
def takenL (c : Cfg) : List Int → List (Int × List Int) → List Int
  | l :: ls, o :: os => linesR l (runO c o) ++ takenL c ls os
  | _, _ => []
theorem takenL_snoc (c : Cfg) : ∀ (ls : List Int) (os : List (Int × List Int)) (l : Int) (o : Int × List Int), ls.length = os.length → takenL c (ls ++ [l]) (os ++ [o]) = takenL c ls os ++ linesR l (runO c o)
  | [], [], l, o, _ => by simp [takenL]
  | [], _ :: _, _, _, h => by simp at h
  | _ :: _, [], _, _, h => by simp at h
  | a :: ls, b :: os, l, o, h => by
    rw [List.cons_append, List.cons_append, takenL, takenL, takenL_snoc c ls os l o (by simpa using h), List.append_assoc]
theorem takenL_length (c : Cfg) : ∀ (ls : List Int) (os : List (Int × List Int)), ls.length = os.length → (takenL c ls os).length = (os.map (runO c)).sum
  | [], [], _ => rfl
  | [], _ :: _, h => by simp at h
  | _ :: _, [], h => by simp at h
  | a :: ls, b :: os, h => by
    rw [takenL, List.length_append, linesR_length, takenL_length c ls os (by simpa using h), List.map_cons, List.sum_cons]
structure MapT (m : ByteArray) (T : List Int) : Prop where
  ok : mapOk m
  nd : T.Nodup
  rg : ∀ x ∈ T, 0 ≤ x ∧ x < 128
  tk : ∀ j : Nat, j < 128 → (tkn m (j : Int) = true ↔ (j : Int) ∈ T)
theorem MapT.nil : MapT (zerosB 64) [] := ⟨zerosB_map, by simp, fun x h => (by cases h), fun j _ => by rw [tkn_zeros]; simp⟩
/-- A run is taken. -/
theorem MapT.take {m : ByteArray} {T : List Int} (h : MapT m T) {a : Int} {n : Nat} (k : (runResult m true a n).2 = true) : MapT (runResult m true a n).1 (T ++ linesR a n) ∧ (∀ x, a ≤ x → x < a + n → x ∉ T) ∧ (runResult m true a n).1 = strOfNums (turnL (bytesOf m) a.toNat n) := by
  obtain ⟨hr, hf, e⟩ := take_yes k
  obtain ⟨_, hn, h0, h1⟩ := hr
  rw [Int.toNat_natCast] at hf e
  have hc := changed_map h.ok a.toNat n true (by omega)
  have hT : ∀ x, a ≤ x → x < a + n → x ∉ T := fun x hx0 hx1 hm => by
    have := (h.tk x.toNat (by omega)).2 (by rw [Int.toNat_of_nonneg (by omega)]; exact hm)
    rw [hf x.toNat (by omega) (by omega)] at this
    cases this
  rw [e]
  refine ⟨⟨hc.1, ?_, fun x hx => ?_, fun j hj => ?_⟩, hT, (turned_is h.ok (by omega) hf).symm⟩
  · refine List.nodup_append.2 ⟨h.nd, linesR_nodup _ _, fun x hx y hy e => ?_⟩
    subst e
    rw [mem_linesR] at hy
    exact hT x hy.1 hy.2 hx
  · rcases List.mem_append.1 hx with hx | hx
    · exact h.rg x hx
    · rw [mem_linesR] at hx; omega
  · simp only []
    rw [hc.2 j (by omega), List.mem_append, mem_linesR]
    by_cases c : a.toNat ≤ j ∧ j < a.toNat + n
    · rw [if_pos c]
      exact ⟨fun _ => Or.inr (by omega), fun _ => rfl⟩
    · rw [if_neg c, h.tk j hj]
      exact ⟨fun h => Or.inl h, fun h => h.elim id (fun h => absurd (by omega) c)⟩
theorem MapT.take_iff {m : ByteArray} {T : List Int} (h : MapT m T) {a : Int} {n : Nat} (h0 : 0 ≤ a) (h1 : a + n ≤ 128) (h2 : 1 ≤ n) : (runResult m true a n).2 = true ↔ ∀ x, a ≤ x → x < a + n → x ∉ T := by
  refine ⟨fun k => (h.take k).2.1, fun k => ?_⟩
  refine (Pu.take_iff ⟨h.ok, by omega, h0, by omega⟩).2 (fun j a0 a1 => ?_)
  rw [Int.toNat_natCast] at a1
  by_cases c : tkn m (j : Int) = true
  · exact absurd ((h.tk j (by omega)).1 c) (k j (by omega) (by omega))
  · simpa using c
/-- The runs turned, one after the other. -/
def turnF (c : Cfg) : List Int → List (Int × List Int) → ByteArray → ByteArray
  | l :: ls, o :: os, m => turnF c ls os (strOfNums (turnL (bytesOf m) l.toNat (runO c o)))
  | _, _, m => m
theorem turnF_snoc (c : Cfg) : ∀ (ls : List Int) (os : List (Int × List Int)) (l : Int) (o : Int × List Int) (m : ByteArray), ls.length = os.length → turnF c (ls ++ [l]) (os ++ [o]) m = strOfNums (turnL (bytesOf (turnF c ls os m)) l.toNat (runO c o))
  | [], [], l, o, m, _ => by simp [turnF]
  | [], _ :: _, _, _, _, h => by simp at h
  | _ :: _, [], _, _, _, h => by simp at h
  | a :: ls, b :: os, l, o, m, h => by
    rw [List.cons_append, List.cons_append, turnF, turnF, turnF_snoc c ls os l o _ (by simpa using h)]
structure WSt (c : Cfg) (image : ByteArray) (i : Nat) (ls : List Int) (os : List (Int × List Int)) (m : ByteArray) : Prop where
  li : LInv c ls
  il : i ≤ ls.length
  ol : os.length = i
  obj : ∀ j (h : j < os.length), oldR c image (rd ls (j : Int)) = (os[j], true)
  cls : ∀ j (h : j < os.length), ∀ q (hq : q < os[j].2.length), bt (kdO c os[j]) (q : Int) = 114 → os[j].2[q] ≠ 0 → os[j].2[q] / 2 ∈ ls
  mt : MapT m (takenL c (ls.take i) os)
  tn : turnF c (ls.take i) os (zerosB 64) = m
theorem see_mem {ls : List Int} {v : Int} (h : v ≠ 0) : v / 2 ∈ seeL ls v := by
  unfold seeL
  by_cases c : v / 2 ∈ ls
  · rw [if_neg (fun k => k.2 c)]; exact c
  · rw [if_pos ⟨h, c⟩]; simp
theorem vls_mem (t : ByteArray) : ∀ (l : List Int) (i : Nat) (ls : List Int) (q : Nat) (hq : q < l.length), bt t ((i + q : Nat) : Int) = 114 → l[q] ≠ 0 → l[q] / 2 ∈ vlsS t i l ls
  | v :: l, i, ls, 0, _, hb, h0 => by
    rw [vlsS, if_pos (by simpa using hb)]
    obtain ⟨k, hk⟩ := vls_pre t l (i + 1) (seeL ls v)
    rw [hk]
    exact List.mem_append_left _ (see_mem h0)
  | v :: l, i, ls, q + 1, hq, hb, h0 => by
    have ih := fun ls => vls_mem t l (i + 1) ls q (by simpa using hq) (by rw [show i + 1 + q = i + (q + 1) from by omega]; exact hb) h0
    rw [vlsS]
    split
    · exact ih _
    · exact ih _
theorem rd_pref {a k : List Int} {i : Nat} (h : i < a.length) : rd (a ++ k) (i : Int) = rd a (i : Int) := by
  rw [rd_get (by rw [List.length_append]; omega), rd_get h, List.getElem_append_left h]
theorem WSt.start {c : Cfg} {image : ByteArray} {refs : List Int} (h : ∀ x ∈ refs, dataRefB c x = true) : WSt c image 0 (refs.foldl seeL []) [] (zerosB 64) :=
  ⟨LInv.fold refs ⟨by simp, fun x hx => by cases hx⟩ h, Nat.zero_le _, rfl, fun j h => absurd h (Nat.not_lt_zero _), fun j h => absurd h (Nat.not_lt_zero _), by rw [List.take_zero]; exact MapT.nil, by rw [List.take_zero]; rfl⟩
theorem WSt.step {c : Cfg} {image : ByteArray} (hc : configOk c = true) (hz : (image.size : Int) = 64 * c.1) {i : Nat} {ls : List Int} {os : List (Int × List Int)} {m : ByteArray} (h : WSt c image i ls os m) (hi : i < ls.length) (ho : (oldR c image (rd ls (i : Int))).2 = true) (ht : (runResult m true (rd ls (i : Int)) (runO c (oldR c image (rd ls (i : Int))).1)).2 = true) :
    WSt c image (i + 1) (vlsS (kdO c (oldR c image (rd ls (i : Int))).1) 0 (oldR c image (rd ls (i : Int))).1.2 ls) (os ++ [(oldR c image (rd ls (i : Int))).1]) (runResult m true (rd ls (i : Int)) (runO c (oldR c image (rd ls (i : Int))).1)).1 := by
  obtain ⟨y1, y2, y3, y4⟩ := oldR_yes hc hz ho
  have hol := h.ol
  have hT := (h.mt.take ht).1
  have hN := (h.mt.take ht).2.2
  have hsn := turnF_snoc c (ls.take i) os (rd ls (i : Int)) (oldR c image (rd ls (i : Int))).1 (zerosB 64) (by rw [List.length_take]; omega)
  rw [h.tn] at hsn
  have hoe : oldR c image (rd ls (i : Int)) = ((oldR c image (rd ls (i : Int))).1, true) := Prod.ext rfl ho
  generalize runResult m true (rd ls (i : Int)) (runO c (oldR c image (rd ls (i : Int))).1) = t at *
  have hv := h.li.vals (kdO c (oldR c image (rd ls (i : Int))).1) (oldR c image (rd ls (i : Int))).1.2 0 y4
  have hmem := vls_mem (kdO c (oldR c image (rd ls (i : Int))).1) (oldR c image (rd ls (i : Int))).1.2 0 ls
  obtain ⟨k, hk⟩ := vls_pre (kdO c (oldR c image (rd ls (i : Int))).1) (oldR c image (rd ls (i : Int))).1.2 0 ls
  rw [hk] at hv hmem ⊢
  generalize (oldR c image (rd ls (i : Int))).1 = o at *
  have htk : (ls ++ k).take (i + 1) = ls.take i ++ [rd ls (i : Int)] := by
    rw [List.take_append_of_le_length (by omega), take_snoc2 ls i hi, rd_get hi]
  refine ⟨hv, by rw [List.length_append]; omega, by simp [hol], fun j hj => ?_, fun j hj q hq hb h0 => ?_, ?_, by rw [htk, hsn, ← hN]⟩
  · rw [List.length_append, List.length_singleton] at hj
    by_cases e : j < os.length
    · rw [rd_pref (by omega), List.getElem_append_left e]
      exact h.obj j e
    · obtain rfl : j = i := by omega
      rw [rd_pref hi, hoe, List.getElem_append_right (by omega)]
      simp
  · rw [List.length_append, List.length_singleton] at hj
    by_cases e : j < os.length
    · revert hq hb h0
      rw [List.getElem_append_left e]
      intro hq hb h0
      exact List.mem_append_left _ (h.cls j e q hq hb h0)
    · obtain rfl : j = i := by omega
      have e2 : (os ++ [o])[j]'(by rw [List.length_append, List.length_singleton]; omega) = o := by
        rw [List.getElem_append_right (by omega)]; simp
      revert hq hb h0
      rw [e2]
      intro hq hb h0
      exact hmem q hq (by simpa using hb) h0
  · rw [htk, takenL_snoc c _ _ _ _ (by rw [List.length_take]; omega)]
    exact hT
/-- What holds behind a walk. -/
theorem walk_end {c : Cfg} {image : ByteArray} (hc : configOk c = true) (hz : (image.size : Int) = 64 * c.1) : ∀ (d i : Nat) (ls : List Int) (os : List (Int × List Int)) (m : ByteArray), 129 ≤ i + d → WSt c image i ls os m → ∀ {L O M}, walkF c image d i ls os m = some (L, O, M) → WSt c image L.length L O M
  | 0, i, ls, os, m, hd, h, L, O, M, _ => by
    have := h.li.len hc
    have := h.il
    omega
  | d + 1, i, ls, os, m, hd, h, L, O, M, hw => by
    rw [walkF] at hw
    split at hw
    · rename_i c1
      split at hw
      · rename_i c2
        split at hw
        · rename_i c3
          exact walk_end hc hz d (i + 1) _ _ _ (by omega) (h.step hc hz c1 c2 c3) hw
        · cases hw
      · cases hw
    · rename_i c1
      injection hw with hw
      injection hw with h1 h2
      injection h2 with h2 h3
      subst h1; subst h2; subst h3
      have := h.il
      obtain rfl : i = ls.length := by omega
      exact h
theorem walkR_end {c : Cfg} {image : ByteArray} {refs L : List Int} {O : List (Int × List Int)} {M : ByteArray} (h : walkR c image refs = some (L, O, M)) : configOk c = true ∧ (image.size : Int) = 64 * c.1 ∧ WSt c image L.length L O M := by
  unfold walkR at h
  split at h
  · rename_i k
    obtain ⟨hc, hz⟩ := isImageB_facts k.1
    exact ⟨hc, hz, walk_end hc hz 129 0 _ _ _ (by omega) (WSt.start (List.all_eq_true.1 k.2)) h⟩
  · cases h
end Go.Proofs.YtbpeiilildchlaaGreatDoor.Abs.Pu
namespace Go.Proofs.YtbpeiilildchlaaGreatDoor.Abs
open Go Go.RowKit
set_option linter.unusedVariables false
set_option linter.unusedSectionVars false
set_option linter.unusedSimpArgs false
theorem placeIn_ev (l : List Int) (x : Int) (hl : l.length ≤ 1099511627776) : ∃ r, Ev (fun k => spec_l7Place.f k l x) r ∧ ((0 ≤ r ∧ x ∈ l) ∨ (r = -1 ∧ x ∉ l)) := by
  have lp : ∀ (d i : Nat), l.length - i = d → i ≤ l.length → x ∉ l.take i → ∃ r, Ev (fun k => spec_l7Place.p6 k l x (i : Int)) r ∧ ((0 ≤ r ∧ x ∈ l) ∨ (r = -1 ∧ x ∉ l)) := by
    intro d
    induction d with
    | zero =>
      intro i hd hi hx
      refine ⟨-1, Ev.step (fun k => by rw [spec_l7Place.p6]) (Ev.neg (by omega) (Ev.eq rfl)), .inr ⟨rfl, ?_⟩⟩
      rwa [List.take_of_length_le (by omega)] at hx
    | succ d ih =>
      intro i hd hi hx
      have hlt : i < l.length := by omega
      by_cases e : l[i] = x
      · refine ⟨i, Ev.step (fun k => by rw [spec_l7Place.p6]) ?_, .inl ⟨by omega, e ▸ List.getElem_mem hlt⟩⟩
        rw [rd_get hlt]
        exact Ev.pos (by omega) (Ev.pos (by omega) (Ev.pos (by omega) (Ev.pos e (Ev.eq rfl))))
      · obtain ⟨r, hr, hp⟩ := ih (i + 1) (by omega) (by omega) (by
          rw [take_snoc2 l i hlt, List.mem_append]
          simp only [List.mem_singleton]
          rintro (h | h)
          · exact hx h
          · exact e h.symm)
        refine ⟨r, Ev.step (fun k => by rw [spec_l7Place.p6]) ?_, hp⟩
        rw [rd_get hlt, show wrap64 ((i : Int) + 1) = ((i + 1 : Nat) : Int) from by rw [w64 (by omega) (by omega)]; omega]
        exact Ev.pos (by omega) (Ev.pos (by omega) (Ev.pos (by omega) (Ev.neg e hr)))
  unfold spec_l7Place.f
  exact lp _ 0 rfl (by omega) (by simp)
end Go.Proofs.YtbpeiilildchlaaGreatDoor.Abs
namespace Go.Proofs.YtbpeiilildchlaaGreatDoor.Abs.Pu
open Go Go.RowKit
set_option linter.unusedVariables false
set_option linter.unusedSectionVars false
set_option linter.unusedSimpArgs false
/-- The place of a reference's line among the lines, from 1 on; 0 of nothing and of what is not there. -/
def toldR (L : List Int) (v : Int) : Int := if v = 0 then 0 else if v / 2 ∈ L then (L.idxOf (v / 2) : Int) + 1 else 0
/-- The values of an object, from place q on, told. -/
def tolV (t : ByteArray) (L : List Int) : Nat → List Int → List Int
  | _, [] => []
  | q, v :: l => (if bt t (q : Int) = 114 then toldR L v else v) :: tolV t L (q + 1) l
theorem tolV_length (t : ByteArray) (L : List Int) : ∀ (l : List Int) (q : Nat), (tolV t L q l).length = l.length
  | [], _ => rfl
  | _ :: l, q => by rw [tolV, List.length_cons, List.length_cons, tolV_length t L l]
theorem place_is (l : List Int) (x : Int) (hl : l.length ≤ 1099511627776) : Ev (fun k => spec_l7Place.f k l x) (if x ∈ l then (l.idxOf x : Int) else -1) := by
  have key : ∀ i, i ≤ l.length → x ∉ l.take i → Ev (fun k => spec_l7Place.p6 k l x (i : Int)) (if x ∈ l then (l.idxOf x : Int) else -1) := by
    refine down ?_ ?_
    · intro h
      rw [List.take_length] at h
      rw [if_neg h]
      exact Ev.step (fun k => by rw [spec_l7Place.p6]) (Ev.neg (by omega) (Ev.eq rfl))
    · intro i hi ih h
      refine Ev.step (fun k => by rw [spec_l7Place.p6]) ?_
      rw [rd_get hi, w64s (by omega)]
      refine Ev.pos (by omega) (Ev.pos (by omega) (Ev.pos (by omega) (Ev.cases (fun e => ?_) (fun e => ?_))))
      · have hm : x ∈ l := e ▸ List.getElem_mem hi
        rw [if_pos hm]
        refine Ev.eq ?_
        have : l.idxOf x = i := by
          have h1 : l = l.take i ++ l.drop i := (List.take_append_drop i l).symm
          rw [h1, List.idxOf_append, if_neg h, List.drop_eq_getElem_cons hi, e, List.idxOf_cons_self, List.length_take]
          omega
        rw [this]
      · refine ih ?_
        rw [take_snoc2 l i hi, List.mem_append, List.mem_singleton]
        exact fun k => k.elim h (fun k => e k.symm)
  unfold spec_l7Place.f
  exact key 0 (Nat.zero_le _) (by simp)
theorem told_is (L : List Int) (v : Int) (hl : L.length ≤ 1099511627776) (h0 : 0 ≤ v) (h1 : v ≤ 1000000) : Ev (fun k => spec_l10Told.f k L v) (toldR L v) := by
  unfold spec_l10Told.f toldR
  refine Ev.cases (fun e => by rw [if_pos e]; exact Ev.eq rfl) (fun e => ?_)
  rw [if_neg e]
  have hh : wrap64 (Int.tdiv v 2) = v / 2 := by
    rw [Int.tdiv_eq_ediv_of_nonneg h0, w64 (by omega) (by omega)]
  rw [hh]
  refine Ev.bind (place_is L (v / 2) hl) (Ev.eq ?_)
  by_cases c : v / 2 ∈ L
  · rw [if_pos c, if_pos c]
    have := List.idxOf_lt_length_of_mem c
    rw [w64 (by omega) (by omega)]
  · rw [if_neg c, if_neg c]
    exact w64 (by omega) (by omega)
end Go.Proofs.YtbpeiilildchlaaGreatDoor.Abs.Pu
namespace Go.Proofs.YtbpeiilildchlaaGreatDoor.Abs.Pu
open Go Go.RowKit
set_option linter.unusedVariables false
set_option linter.unusedSectionVars false
set_option linter.unusedSimpArgs false
theorem spec_l1Zeros_f (n : Nat) (h : n ≤ 1048576) : spec_l1Zeros.f (n : Int) = some (zerosB n) := by
  unfold spec_l1Zeros.f
  rw [if_pos (by omega), if_pos (by rw [Int.toNat_natCast]; omega), Int.toNat_natCast]
  rfl
end Go.Proofs.YtbpeiilildchlaaGreatDoor.Abs.Pu
namespace Go.Proofs.YtbpeiilildchlaaGreatDoor.Abs.Pu
open Go Go.RowKit
set_option linter.unusedVariables false
set_option linter.unusedSectionVars false
set_option linter.unusedSimpArgs false
theorem impl_zeros_f (n : Nat) (h : n ≤ 1048576) : impl_zeros.f (n : Int) = some (zerosB n) := by
  unfold impl_zeros.f strings_Repeat.f
  rw [if_pos (by omega), if_pos (by omega), if_pos (by decide)]
  simp only [Option.bind_some, Int.toNat_natCast]
  refine congrArg some ?_
  rw [repeat_zero]
  simp [zerosB, strOfNums]
end Go.Proofs.YtbpeiilildchlaaGreatDoor.Abs.Pu
namespace Go.Proofs.YtbpeiilildchlaaGreatDoor.Abs.Pu
open Go Go.RowKit
set_option linter.unusedVariables false
set_option linter.unusedSectionVars false
set_option linter.unusedSimpArgs false
theorem wrap_u8 (x : Int) : IntKind.u8.wrap x = x % 256 := by simp [IntKind.wrap, IntKind.bits, IntKind.signed]
theorem shl1_u8 (r : Nat) (hr : r < 8) : shlA .u8 1 (r : Int) = 2 ^ r % 256 := by
  unfold shlA
  rw [Int.toNat_natCast, wrap_u8]
  rw [show min r IntKind.u8.bits = r from Nat.min_eq_left (by show r ≤ 8; omega)]
  simp
theorem shr_u8 (x : Int) (r : Nat) (hr : r < 8) : shrA .u8 x (r : Int) = x / 2 ^ r := by
  unfold shrA
  rw [Int.toNat_natCast, show min r IntKind.u8.bits = r from Nat.min_eq_left (by show r ≤ 8; omega)]
theorem bit_read (s : ByteArray) (n : Nat) : decide (andA .u8 (shrA .u8 (bt s ((n / 8 : Nat) : Int)) ((n % 8 : Nat) : Int)) 1 = 1) = tkn s (n : Int) := by
  have hb := bt_range s ((n / 8 : Nat) : Int)
  have hd := div_range hb.1 hb.2 (n % 8)
  rw [shr_u8 _ _ (by omega), andA_eq, and_one hd.1 hd.2, bt_bytesOf]
  unfold tkn bitL bitv
  rw [Int.toNat_natCast]
  rfl
theorem impl_isMap_f (s : ByteArray) : impl_isMap.f s = some (decide (mapOk s)) := by
  unfold impl_isMap.f mapOk
  have z := impl_zeros_f 48 (by omega)
  by_cases h : s.size = 64
  · rw [if_pos (by omega), if_pos (by omega), show (48 : Int) = ((48 : Nat) : Int) from rfl, z]
    simp only [Option.bind_some, toList_inj, Int.toNat_natCast]
    exact congrArg some (decide_eq_decide.2 ⟨fun e => ⟨h, e⟩, fun e => e.2⟩)
  · rw [if_neg (by omega)]
    exact congrArg some (decide_eq_false (fun e => h e.1)).symm
theorem idx8 (n : Nat) (hn : n ≤ 1099511627776) : wrap64 (Int.tdiv (n : Int) 8) = ((n / 8 : Nat) : Int) ∧ Int.tmod (n : Int) 8 = ((n % 8 : Nat) : Int) := by
  rw [Int.tdiv_eq_ediv_of_nonneg (by omega), Int.tmod_eq_emod_of_nonneg (by omega), w64 (by omega) (by omega)]
  omega
theorem impl_isTaken_f (s : ByteArray) (n : Nat) (h : n / 8 < s.size) (hn : n ≤ 1099511627776) : impl_isTaken.f s (n : Int) = some (tkn s (n : Int)) := by
  unfold impl_isTaken.f
  rw [(idx8 n hn).1, (idx8 n hn).2, if_pos (by omega), if_pos (by omega), if_neg (by omega), byteAt_eq, bit_read]
theorem changedMap_ev (s : ByteArray) (x y : Nat) (h : x + y ≤ 8 * s.size) (hs : s.size ≤ 1048576) : Ev (fun k => impl_changedMap.f k s (x : Int) (y : Int) true) (changed s true x y) := by
  have key : ∀ j, j ≤ y → Ev (fun k => impl_changedMap.p8 k (x : Int) (y : Int) true (changeL (bytesOf s) x true j) ((x + j : Nat) : Int)) (changed s true x y) := by
    refine down ?_ ?_
    · refine Ev.step (fun k => by rw [impl_changedMap.p8]) ?_
      rw [w64 (x := (x : Int) + (y : Int)) (by omega) (by omega)]
      exact Ev.neg (by omega) (Ev.eq rfl)
    · intro j hj ih
      have hl : (changeL (bytesOf s) x true j).length = s.size := by rw [changeL_length, bytesOf_length]
      have hc : changeL (bytesOf s) x true (j + 1) = change1 (changeL (bytesOf s) x true j) (x + j) true := rfl
      rw [hc] at ih
      generalize changeL (bytesOf s) x true j = xs at *
      unfold change1 at ih
      rw [if_pos rfl] at ih
      refine Ev.step (fun k => by rw [impl_changedMap.p8]) ?_
      rw [w64 (x := (x : Int) + (y : Int)) (by omega) (by omega), (idx8 (x + j) (by omega)).1, (idx8 (x + j) (by omega)).2, Int.toNat_natCast, shl1_u8 _ (by omega), andNotA_eq, orA_eq, rd_eq, rd_eq]
      have hg : (xs.set ((x + j) / 8) (Go.bits .andNot .u8 (xs.getD ((x + j) / 8) 0) (2 ^ ((x + j) % 8) % 256))).getD ((x + j) / 8) 0 = Go.bits .andNot .u8 (xs.getD ((x + j) / 8) 0) (2 ^ ((x + j) % 8) % 256) := by
        rw [List.getD_eq_getElem?_getD, List.getElem?_set_self (by omega)]; rfl
      rw [hg]
      have hl2 : (xs.set ((x + j) / 8) (Go.bits .andNot .u8 (xs.getD ((x + j) / 8) 0) (2 ^ ((x + j) % 8) % 256))).length = s.size := by rw [List.length_set]; exact hl
      refine Ev.pos (by omega) (Ev.pos (by omega) (Ev.pos (by omega) (Ev.neg (by omega) (Ev.pos (by omega) (Ev.pos (by omega) (Ev.pos rfl (Ev.pos (by omega) (Ev.pos (by rw [hl2]; omega) (Ev.neg (by omega) (Ev.pos (by omega) (Ev.pos (by rw [hl2]; omega) ?_)))))))))))
      refine Ev.step (fun k => by rw [impl_changedMap.p24]) ?_
      rw [w64s (i := x + j) (by omega)]
      exact ih
  unfold impl_changedMap.f
  exact key 0 (Nat.zero_le _)
theorem impl_isRun_ev (s : ByteArray) (a n : Int) : Ev (fun k => impl_isRun.f k s a n false) (decide (runOk s a n ∧ ∀ j : Nat, a.toNat ≤ j → j < a.toNat + n.toNat → bitL (bytesOf s) j = false)) := by
  unfold impl_isRun.f
  refine Ev.bindo (impl_isMap_f s) (Ev.cases (fun c => ?_) (fun c => Ev.eq (decide_eq_false (fun h => c (decide_eq_true h.1.1))).symm))
  have c : mapOk s := of_decide_eq_true c
  refine Ev.bindo (within_f _ _ _) (Ev.cases (fun c2 => ?_) (fun c2 => Ev.eq (decide_eq_false (fun h => c2 (by simp; exact h.1.2.1))).symm))
  simp only [Bool.and_eq_true, decide_eq_true_eq] at c2
  rw [w64 (x := 128 - n) (by omega) (by omega)]
  refine Ev.bindo (within_f _ _ _) (Ev.cases (fun c3 => ?_) (fun c3 => Ev.eq (decide_eq_false (fun h => c3 (by simp; exact h.1.2.2))).symm))
  simp only [Bool.and_eq_true, decide_eq_true_eq] at c3
  have h64 := c.1
  have hrun : runOk s a n := ⟨c, c2, c3.1, c3.2⟩
  obtain ⟨x, rfl⟩ := Int.eq_ofNat_of_zero_le c3.1
  obtain ⟨y, rfl⟩ := Int.eq_ofNat_of_zero_le (show 0 ≤ n by omega)
  rw [Int.toNat_natCast, Int.toNat_natCast]
  have key : ∀ j, j ≤ y → (∀ q : Nat, x ≤ q → q < x + j → bitL (bytesOf s) q = false) → Ev (fun k => impl_isRun.p14 k s (x : Int) (y : Int) false ((x + j : Nat) : Int)) (decide (runOk s (x : Int) (y : Int) ∧ ∀ j : Nat, x ≤ j → j < x + y → bitL (bytesOf s) j = false)) := by
    refine down ?_ ?_
    · intro hf
      refine Ev.step (fun k => by rw [impl_isRun.p14]) ?_
      rw [w64 (x := (x : Int) + (y : Int)) (by omega) (by omega)]
      exact Ev.neg (by omega) (Ev.eq (decide_eq_true ⟨hrun, hf⟩).symm)
    · intro j hj ih hf
      refine Ev.step (fun k => by rw [impl_isRun.p14]) ?_
      rw [w64 (x := (x : Int) + (y : Int)) (by omega) (by omega), w64s (i := x + j) (by omega)]
      refine Ev.pos (by omega) (Ev.bindo (impl_isTaken_f s (x + j) (by omega) (by omega)) ?_)
      have ht : tkn s ((x + j : Nat) : Int) = bitL (bytesOf s) (x + j) := by unfold tkn; rw [Int.toNat_natCast]
      refine Ev.cases (fun e => ?_) (fun e => Ev.eq (decide_eq_false (fun h => e ?_)).symm)
      · refine ih (fun q h0 h1 => ?_)
        by_cases e2 : q = x + j
        · subst e2; rw [← ht]; exact e
        · exact hf q h0 (by omega)
      · rw [ht]
        exact h.2 (x + j) (by omega) (by omega)
  exact key 0 (Nat.zero_le _) (fun q h0 h1 => by omega)
theorem impl_TakeRun_ev (s : ByteArray) (a n : Int) : Ev (fun k => impl_TakeRun.f k s a n) (runResult s true a n) := by
  unfold impl_TakeRun.f runResult
  simp only [Bool.not_true]
  refine Ev.bind (impl_isRun_ev s a n) (Ev.cases (fun c => ?_) (fun c => Ev.eq ?_))
  · obtain ⟨c, hb⟩ := of_decide_eq_true c
    rw [if_pos c, if_pos hb]
    obtain ⟨hm, ⟨h1, h2⟩, h3, h4⟩ := c
    have h64 := hm.1
    obtain ⟨x, rfl⟩ := Int.eq_ofNat_of_zero_le h3
    obtain ⟨y, rfl⟩ := Int.eq_ofNat_of_zero_le (show 0 ≤ n by omega)
    exact Ev.bind (changedMap_ev s x y (by omega) (by omega)) (Ev.eq rfl)
  · by_cases e : runOk s a n
    · rw [if_pos e, if_neg (fun h => c (decide_eq_true ⟨e, h⟩))]
    · rw [if_neg e]
end Go.Proofs.YtbpeiilildchlaaGreatDoor.Abs.Pu
namespace Go.Proofs.YtbpeiilildchlaaGreatDoor.Abs.Pu
open Go Go.RowKit
set_option linter.unusedVariables false
set_option linter.unusedSectionVars false
set_option linter.unusedSimpArgs false
theorem spec_l9Word_ev (s : ByteArray) (w : Nat) (h : 8 * w + 8 ≤ s.size) (hs : s.size ≤ 140737488355328) : Ev (fun k => spec_l9Word.f k s (w : Int)) (wordv s (8 * w)) := by
  unfold spec_l9Word.f
  rw [show wrap64 (8 * (w : Int)) = ((8 * w : Nat) : Int) from by rw [w64 (by omega) (by omega)]; omega, show wrap64 (((8 * w : Nat) : Int) + 8) = ((8 * w + 8 : Nat) : Int) from by rw [w64 (by omega) (by omega)]; omega]
  refine Ev.pos (by omega) (Ev.pos (by omega) (Ev.pos (by omega) (Ev.pos (by omega) ?_)))
  rw [Int.toNat_natCast, Int.toNat_natCast]
  refine Ev.bind (spec_ReadWord_ev _ (by rw [ByteArray.size_extract]; omega)) (Ev.eq ?_)
  exact wordv_extract s (8 * w) h
end Go.Proofs.YtbpeiilildchlaaGreatDoor.Abs.Pu
namespace Go.Proofs.YtbpeiilildchlaaGreatDoor.Abs.Pu
open Go Go.RowKit
set_option linter.unusedVariables false
set_option linter.unusedSectionVars false
set_option linter.unusedSimpArgs false
theorem spec_WordBytes_ev (n : Int) : Ev (fun k => spec_WordBytes.f k n) (wordB n) := by
  have hu : 0 ≤ IntKind.u64.wrap n ∧ IntKind.u64.wrap n < 18446744073709551616 := by rw [wrap_u64]; omega
  have set1 : ∀ (u : Int) (i : Nat), i < 8 → ((wordL u).take i ++ List.replicate (8 - i) 0).set i (byte8 u i) = (wordL u).take (i + 1) ++ List.replicate (8 - (i + 1)) 0 := by
    intro u i hi
    obtain rfl | rfl | rfl | rfl | rfl | rfl | rfl | rfl : i = 0 ∨ i = 1 ∨ i = 2 ∨ i = 3 ∨ i = 4 ∨ i = 5 ∨ i = 6 ∨ i = 7 := by omega
    all_goals rfl
  have lp : ∀ (d i : Nat), 8 - i = d → i ≤ 8 → Ev (fun k => spec_WordBytes.p8 k n ((wordL (IntKind.u64.wrap n)).take i ++ List.replicate (8 - i) 0) (i : Int)) (wordB n) := by
    intro d
    induction d with
    | zero =>
      intro i hd hi
      obtain rfl : i = 8 := by omega
      refine Ev.step (fun k => by rw [spec_WordBytes.p8]) ?_
      refine Ev.neg (by decide) (Ev.eq ?_)
      rfl
    | succ d ih =>
      intro i hd hi
      have hi8 : i < 8 := by omega
      have hl : ((wordL (IntKind.u64.wrap n)).take i ++ List.replicate (8 - i) 0).length = 8 := by
        rw [List.length_append, List.length_take, List.length_replicate, show (wordL (IntKind.u64.wrap n)).length = 8 from rfl]; omega
      have ih := ih (i + 1) (by omega) (by omega)
      rw [← set1 _ i hi8] at ih
      refine Ev.step (fun k => by rw [spec_WordBytes.p8]) ?_
      rw [w64 (x := 8 * (i : Int)) (by omega) (by omega), w64 (x := 56 - 8 * (i : Int)) (by omega) (by omega), show IntKind.u64.wrap (56 - 8 * (i : Int)) = ((56 - 8 * i : Nat) : Int) from by rw [wrap_u64]; omega,
        show wrap64 ((i : Int) + 1) = ((i + 1 : Nat) : Int) from by rw [w64 (by omega) (by omega)]; omega, Int.toNat_natCast,
        show shrA .u64 (IntKind.u64.wrap n) ((56 - 8 * i : Nat) : Int) % 256 = byte8 (IntKind.u64.wrap n) i from by
          unfold shrA byte8
          rw [Int.toNat_natCast, show min (56 - 8 * i) IntKind.u64.bits = 56 - 8 * i from Nat.min_eq_left (by show 56 - 8 * i ≤ 64; omega)]]
      exact Ev.pos (by omega) (Ev.neg (by omega) (Ev.pos (by omega) (Ev.pos (by rw [hl]; omega) ih)))
  unfold spec_WordBytes.f
  exact lp 8 0 rfl (by omega)
theorem impl_bigBytes_ev (u : Int) (h0 : 0 ≤ u) : Ev (fun k => impl_bigBytes.f k u 8) (strOfNums (wordL u)) := by
  have set1 : ∀ (i : Nat), i < 8 → (List.replicate (8 - i) 0 ++ (wordL u).drop (8 - i)).set (7 - i) (byte8 u (7 - i)) = List.replicate (8 - (i + 1)) 0 ++ (wordL u).drop (8 - (i + 1)) := by
    intro i hi
    obtain rfl | rfl | rfl | rfl | rfl | rfl | rfl | rfl : i = 0 ∨ i = 1 ∨ i = 2 ∨ i = 3 ∨ i = 4 ∨ i = 5 ∨ i = 6 ∨ i = 7 := by omega
    all_goals rfl
  have lp : ∀ (d i : Nat), 8 - i = d → i ≤ 8 → Ev (fun k => impl_bigBytes.p8 k (u / 2 ^ (8 * i)) 8 (List.replicate (8 - i) 0 ++ (wordL u).drop (8 - i)) 8 (i : Int)) (strOfNums (wordL u)) := by
    intro d
    induction d with
    | zero =>
      intro i hd hi
      obtain rfl : i = 8 := by omega
      refine Ev.step (fun k => by rw [impl_bigBytes.p8]) ?_
      refine Ev.neg (by decide) (Ev.eq ?_)
      rfl
    | succ d ih =>
      intro i hd hi
      have hi8 : i < 8 := by omega
      have hl : (List.replicate (8 - i) 0 ++ (wordL u).drop (8 - i)).length = 8 := by
        rw [List.length_append, List.length_drop, List.length_replicate, show (wordL u).length = 8 from rfl]; omega
      have ih := ih (i + 1) (by omega) (by omega)
      rw [← set1 i hi8] at ih
      refine Ev.step (fun k => by rw [impl_bigBytes.p8]) ?_
      rw [w64 (x := 8 - 1) (by omega) (by omega), w64 (x := 8 - 1 - (i : Int)) (by omega) (by omega), show (8 - 1 - (i : Int)) = ((7 - i : Nat) : Int) from by omega,
        show wrap64 ((i : Int) + 1) = ((i + 1 : Nat) : Int) from by rw [w64 (by omega) (by omega)]; omega, Int.toNat_natCast,
        show u / 2 ^ (8 * i) % 256 = byte8 u (7 - i) from by unfold byte8; rw [show 56 - 8 * (7 - i) = 8 * i from by omega],
        show shrA .u64 (u / 2 ^ (8 * i)) 8 = u / 2 ^ (8 * (i + 1)) from by
          show u / 2 ^ (8 * i) / 2 ^ 8 = _
          rw [Int.ediv_ediv_of_nonneg (Int.pow_nonneg (by decide)), show (8 * (i + 1)) = 8 * i + 8 from by omega, Int.pow_add]]
      exact Ev.pos (by omega) (Ev.pos (by omega) (Ev.pos (by rw [hl]; omega) ih))
  unfold impl_bigBytes.f
  refine Ev.pos (by decide) (Ev.pos (by decide) ?_)
  have h := lp 8 0 rfl (by omega)
  rw [Nat.mul_zero, Int.pow_zero, Int.ediv_one] at h
  exact h
theorem impl_WordBytes_ev (n : Int) : Ev (fun k => impl_WordBytes.f k n) (wordB n) := by
  unfold impl_WordBytes.f
  exact Ev.bind (impl_bigBytes_ev _ (by rw [wrap_u64]; omega)) (Ev.eq rfl)
end Go.Proofs.YtbpeiilildchlaaGreatDoor.Abs.Pu
namespace Go.Proofs.YtbpeiilildchlaaGreatDoor.Abs.Pu
open Go Go.RowKit
set_option linter.unusedVariables false
set_option linter.unusedSectionVars false
set_option linter.unusedSimpArgs false
def okRef (x : Int) : Bool := decide (refk x ≥ 0)
def objOkB (types : List ByteArray) (o : Int × List Int) : Bool := typesOk types && objW okRef types o
theorem impl_ObjOk_ev (types : List ByteArray) (o : Int × List Int) (hs : ∀ x ∈ types, x.size ≤ 1048576) : Ev (fun k => impl_ObjOk.f k types o.1 o.2) (objOkB types o) := by
  unfold impl_ObjOk.f objOkB
  refine Ev.bind (impl_TypesOk_ev types hs) (Ev.cases (fun ht => ?_) (fun ht => by rw [Bool.eq_false_iff.2 ht, Bool.false_and]; exact Ev.eq rfl))
  rw [ht, Bool.true_and]
  have htl := types_len ht
  have hts := type_size ht o.1
  refine Ev.bind (a := objW okRef types o) ?_ (Ev.eq rfl)
  unfold impl_isObject_at_impl_ObjOk_1.f impl_size_string.f objW
  refine Ev.bindo rfl (Ev.bindo (within_f _ _ _) ?_)
  rw [w64 (x := (types.length : Int) - 1) (by omega) (by omega)]
  refine Ev.cases (fun c => ?_) (fun c => ?_)
  · rw [c, Bool.true_and]
    simp only [Bool.and_eq_true, decide_eq_true_eq] at c
    refine Ev.pos c.1 (Ev.pos (by omega) ?_)
    by_cases c2 : o.2.length = (rdOf ByteArray.empty types o.1).size
    · rw [decide_eq_true c2, Bool.true_and]
      refine Ev.pos (by omega) ?_
      refine refs_ev (g := fun k i => impl_isObject_at_impl_ObjOk_1.p14 k types o.1 o.2 o.2 (o.2.length : Int) i) (t := fun _ x => impl_ObjOk_1.f x) c.1 (by omega) c2 (by omega) (fun k i => by rw [impl_isObject_at_impl_ObjOk_1.p14]) (fun x _ => ?_)
      unfold impl_ObjOk_1.f
      exact Ev.bindo (impl_RefKind_f x) (Ev.eq rfl)
    · rw [decide_eq_false c2, Bool.false_and]
      exact Ev.neg (by omega) (Ev.eq rfl)
  · rw [Bool.eq_false_iff.2 c, Bool.false_and]
    exact Ev.eq rfl
theorem spec_ObjOk_ev (types : List ByteArray) (o : Int × List Int) (hl : types.length ≤ 1048576) (hs : ∀ x ∈ types, x.size ≤ 1048576) : Ev (fun k => spec_ObjOk.f k types o.1 o.2) (objOkB types o) := by
  unfold spec_ObjOk.f objOkB
  refine Ev.bind (spec_TypesOk_ev types hl hs) (Ev.cases (fun ht => ?_) (fun ht => by rw [Bool.eq_false_iff.2 ht, Bool.false_and]; exact Ev.eq rfl))
  rw [ht, Bool.true_and]
  have htl := types_len ht
  have hts := type_size ht o.1
  unfold objW
  rw [w64 (x := (types.length : Int) - 1) (by omega) (by omega)]
  refine Ev.bindo (l1In_f _ _ _) (Ev.cases (fun c => ?_) (fun c => by rw [Bool.eq_false_iff.2 c, Bool.false_and]; exact Ev.eq rfl))
  rw [c, Bool.true_and]
  simp only [Bool.and_eq_true, decide_eq_true_eq] at c
  obtain ⟨tp, vals⟩ := o
  simp only [] at *
  refine Ev.pos c.1 (Ev.pos (by omega) ?_)
  by_cases c2 : vals.length = (rdOf ByteArray.empty types tp).size
  rotate_left
  · rw [decide_eq_false c2, Bool.false_and]
    exact Ev.neg (by omega) (Ev.eq rfl)
  rw [decide_eq_true c2, Bool.true_and]
  refine Ev.pos (by omega) ?_
  have key : ∀ i, i ≤ vals.length → Ev (fun k => spec_ObjOk.p14 k types tp vals (i : Int)) (refsB okRef (rdOf ByteArray.empty types tp) i (vals.drop i)) := by
    refine down ?_ ?_
    · rw [List.drop_eq_nil_of_le (Nat.le_refl _)]
      refine Ev.step (fun k => by rw [spec_ObjOk.p14]) ?_
      exact Ev.neg (by omega) (Ev.eq rfl)
    · intro i hi ih
      refine Ev.step (fun k => by rw [spec_ObjOk.p14]) ?_
      rw [rd_get hi, w64s (by omega), List.drop_eq_getElem_cons hi, refsB]
      refine Ev.pos (by omega) (Ev.pos c.1 (Ev.pos (by omega) (Ev.pos (by omega) (Ev.pos (by omega) ?_))))
      by_cases c3 : bt (rdOf ByteArray.empty types tp) (i : Int) = 114
      · rw [if_pos c3]
        refine Ev.pos c3 (Ev.pos (by omega) (Ev.pos (by omega) (Ev.bindo (spec_RefKind_f _) ?_)))
        by_cases c4 : refk vals[i] < 0
        · rw [show okRef vals[i] = false from decide_eq_false (by omega), Bool.false_and]
          exact Ev.pos c4 (Ev.eq rfl)
        · rw [show okRef vals[i] = true from decide_eq_true (by omega), Bool.true_and]
          exact Ev.neg c4 ih
      · rw [if_neg c3]
        exact Ev.neg c3 ih
  have h := key 0 (Nat.zero_le _)
  rw [List.drop_zero] at h
  exact h
end Go.Proofs.YtbpeiilildchlaaGreatDoor.Abs.Pu
namespace Go.Proofs.YtbpeiilildchlaaGreatDoor.Abs.Pu
open Go Go.RowKit
set_option linter.unusedVariables false
set_option linter.unusedSectionVars false
set_option linter.unusedSimpArgs false
theorem objOk8_eq (types : List ByteArray) (o : Int × List Int) : objOkB types o = objOk8 types o := rfl
theorem type_at {types : List ByteArray} (ht : typesOk types = true) {t : Int} (h0 : 0 ≤ t) (h1 : t < types.length) : typeOk (rdOf ByteArray.empty types t) = true := by
  unfold typesOk at ht
  rw [Bool.and_eq_true, List.all_eq_true] at ht
  have h : t.toNat < types.length := by omega
  have e := rdg (d := ByteArray.empty) h
  rw [Int.toNat_of_nonneg h0] at e
  rw [e]
  exact ht.2 _ (List.getElem_mem h)
theorem spec_RunOf_ev {types : List ByteArray} (ht : typesOk types = true) {t : Int} (h0 : 0 ≤ t) (h1 : t < types.length) : Ev (fun k => spec_RunOf.f k (rdOf ByteArray.empty types t)) (runL types t : Int) := by
  have hz := type_size ht t
  unfold spec_RunOf.f
  refine Ev.bind (l3Type_ev _ (by omega)) (Ev.pos (type_at ht h0 h1) (Ev.eq ?_))
  unfold runL
  rw [w64 (x := 1 + ((rdOf ByteArray.empty types t).size : Int)) (by omega) (by omega), w64 (x := 1 + ((rdOf ByteArray.empty types t).size : Int) + 7) (by omega) (by omega), Int.tdiv_eq_ediv_of_nonneg (by omega), w64 (by omega) (by omega)]
  omega
theorem impl_runOf_f {types : List ByteArray} (ht : typesOk types = true) (t : Int) : impl_runOf.f (rdOf ByteArray.empty types t) = some (runL types t : Int) := by
  have hz := type_size ht t
  unfold impl_runOf.f runL
  rw [w64 (x := ((rdOf ByteArray.empty types t).size : Int) + 8) (by omega) (by omega), Int.tdiv_eq_ediv_of_nonneg (by omega), w64 (by omega) (by omega)]
  refine congrArg some ?_
  omega
def SB (l : List Int) : ByteArray := strOfNums (WL l)
theorem SB_size (l : List Int) : (SB l).size = 8 * l.length := by rw [SB, strOfNums_size, WL_length]
theorem SB_snoc (l : List Int) (n : Int) : SB (l ++ [n]) = SB l ++ wordB n := by
  unfold SB wordB
  rw [WL_append, strOfNums_append, WL, WL, List.append_nil]
theorem SB_one (n : Int) : wordB n = SB [n] := by
  unfold SB wordB
  rw [WL, WL, List.append_nil]
theorem objB8_eq (types : List ByteArray) (o : Int × List Int) : objB8 types o = SB ((o.1 + 1) :: o.2) ++ zerosB (64 * runL types o.1 - 8 * (o.2.length + 1)) := by
  unfold objB8 SB zerosB
  rw [strOfNums_append]
theorem spec_ObjectBytes_ev (types : List ByteArray) (o : Int × List Int) (hl : types.length ≤ 1048576) (hs : ∀ x ∈ types, x.size ≤ 1048576) : Ev (fun k => spec_ObjectBytes.f k types o.1 o.2) (bytesR types o) := by
  unfold spec_ObjectBytes.f bytesR
  refine Ev.bind (spec_ObjOk_ev types o hl hs) ?_
  rw [objOk8_eq]
  by_cases c : objOk8 types o = true
  rotate_left
  · rw [if_neg c]; exact Ev.neg c (Ev.eq rfl)
  rw [if_pos c]
  refine Ev.pos c ?_
  obtain ⟨ht, h0, h1, h2, h3, h4, h5⟩ := objOk8_facts c
  have hr := runL_bound ht o.1
  rw [w64 (x := o.1 + 1) (by omega) (by omega)]
  refine Ev.bind (spec_WordBytes_ev (o.1 + 1)) ?_
  rw [SB_one, objB8_eq]
  obtain ⟨tp, vals⟩ := o
  simp only [] at *
  have hrun := spec_RunOf_ev ht h0 h1
  have key : ∀ i, i ≤ vals.length → Ev (fun k => spec_ObjectBytes.p16 k types tp vals (SB ((tp + 1) :: vals.take i)) (i : Int)) (SB ((tp + 1) :: vals) ++ zerosB (64 * runL types tp - 8 * (vals.length + 1))) := by
    refine down ?_ ?_
    · refine Ev.step (fun k => by rw [spec_ObjectBytes.p16]) ?_
      rw [List.take_of_length_le (Nat.le_refl _)]
      have hz := SB_size ((tp + 1) :: vals)
      rw [List.length_cons] at hz
      have hzz := spec_l1Zeros_f (64 * runL types tp - 8 * (vals.length + 1)) (by omega)
      have hzs := zerosB_size (64 * runL types tp - 8 * (vals.length + 1))
      refine Ev.neg (by omega) (Ev.pos h0 (Ev.pos h1 (Ev.bind hrun ?_)))
      rw [w64 (x := 64 * (runL types tp : Int)) (by omega) (by omega), w64 (x := 64 * (runL types tp : Int) - ((SB ((tp + 1) :: vals)).size : Int)) (by omega) (by omega), show 64 * (runL types tp : Int) - ((SB ((tp + 1) :: vals)).size : Int) = ((64 * runL types tp - 8 * (vals.length + 1) : Nat) : Int) from by omega]
      exact Ev.bindo hzz (Ev.pos (by omega) (Ev.eq rfl))
    · intro i hi ih
      refine Ev.step (fun k => by rw [spec_ObjectBytes.p16]) ?_
      rw [rd_get hi, w64s (i := i) (by omega)]
      rw [take_snoc2 vals i hi, ← List.cons_append, SB_snoc] at ih
      have hz := SB_size ((tp + 1) :: vals.take i)
      rw [List.length_cons, List.length_take] at hz
      have hz2 := wordB_size vals[i]
      exact Ev.pos (by omega) (Ev.pos (by omega) (Ev.pos (by omega) (Ev.bind (spec_WordBytes_ev _) (Ev.pos (by omega) ih))))
  exact key 0 (Nat.zero_le _)
theorem impl_ObjectBytes_ev (types : List ByteArray) (o : Int × List Int) (hs : ∀ x ∈ types, x.size ≤ 1048576) : Ev (fun k => impl_ObjectBytes.f k types o.1 o.2) (bytesR types o) := by
  unfold impl_ObjectBytes.f bytesR
  refine Ev.bind (impl_ObjOk_ev types o hs) ?_
  rw [objOk8_eq]
  by_cases c : objOk8 types o = true
  rotate_left
  · rw [if_neg c]; exact Ev.neg c (Ev.eq rfl)
  rw [if_pos c]
  refine Ev.pos c (Ev.bind (a := objB8 types o) ?_ (Ev.eq rfl))
  obtain ⟨ht, h0, h1, h2, h3, h4, h5⟩ := objOk8_facts c
  have hr := runL_bound ht o.1
  unfold impl_objectBytes.f
  rw [w64 (x := o.1 + 1) (by omega) (by omega)]
  refine Ev.bind (impl_WordBytes_ev (o.1 + 1)) ?_
  rw [SB_one, objB8_eq]
  obtain ⟨tp, vals⟩ := o
  simp only [] at *
  have hrun := impl_runOf_f ht tp
  have key : ∀ i, i ≤ vals.length → Ev (fun k => impl_objectBytes.p8 k types tp vals (SB ((tp + 1) :: vals.take i)) vals (vals.length : Int) (i : Int)) (SB ((tp + 1) :: vals) ++ zerosB (64 * runL types tp - 8 * (vals.length + 1))) := by
    refine down ?_ ?_
    · refine Ev.step (fun k => by rw [impl_objectBytes.p8]) ?_
      rw [List.take_of_length_le (Nat.le_refl _)]
      have hz := SB_size ((tp + 1) :: vals)
      rw [List.length_cons] at hz
      have hzz := impl_zeros_f (64 * runL types tp - 8 * (vals.length + 1)) (by omega)
      have hzs := zerosB_size (64 * runL types tp - 8 * (vals.length + 1))
      refine Ev.neg (by omega) (Ev.pos h0 (Ev.pos h1 (Ev.bindo hrun ?_)))
      rw [w64 (x := 64 * (runL types tp : Int)) (by omega) (by omega), w64 (x := 64 * (runL types tp : Int) - ((SB ((tp + 1) :: vals)).size : Int)) (by omega) (by omega), show 64 * (runL types tp : Int) - ((SB ((tp + 1) :: vals)).size : Int) = ((64 * runL types tp - 8 * (vals.length + 1) : Nat) : Int) from by omega]
      exact Ev.bindo hzz (Ev.pos (by omega) (Ev.eq rfl))
    · intro i hi ih
      refine Ev.step (fun k => by rw [impl_objectBytes.p8]) ?_
      rw [rd_get hi, w64s (i := i) (by omega)]
      rw [take_snoc2 vals i hi, ← List.cons_append, SB_snoc] at ih
      have hz := SB_size ((tp + 1) :: vals.take i)
      rw [List.length_cons, List.length_take] at hz
      have hz2 := wordB_size vals[i]
      exact Ev.pos (by omega) (Ev.pos (by omega) (Ev.pos (by omega) (Ev.bind (impl_WordBytes_ev _) (Ev.pos (by omega) ih))))
  exact key 0 (Nat.zero_le _)
theorem valsOf_length (s : ByteArray) (n : Nat) : (valsOf s n).length = n := by simp [valsOf]
theorem valsOf_get (s : ByteArray) (n i : Nat) (h : i < (valsOf s n).length) : (valsOf s n)[i] = wordv s (8 + 8 * i) := by simp [valsOf]
theorem readR_no {types : List ByteArray} {s : ByteArray} (h : ¬ (typesOk types = true ∧ 64 ≤ s.size ∧ (1 ≤ wordv s 0 ∧ wordv s 0 ≤ types.length) ∧ s.size = 64 * runL types (wordv s 0 - 1) ∧ bytesR types (readO types s) = s)) : readR types s = ((0, []), false) := by
  unfold readR
  rw [if_neg h]
def out3 (r : (Int × List Int) × Bool) : Int × List Int × Bool := (r.1.1, r.1.2, r.2)
theorem spec_ReadObject_ev (types : List ByteArray) (s : ByteArray) (hl : types.length ≤ 1048576) (hs : ∀ x ∈ types, x.size ≤ 1048576) (hz : s.size ≤ 140737488355328) : Ev (fun k => spec_ReadObject.f k types s) (out3 (readR types s)) := by
  have bad : ∀ b, b = true → readR types s = ((0, []), false) → Ev (fun k => spec_ReadObject.p5 k types s 0 b) (out3 (readR types s)) := by
    intro b hb h
    refine Ev.step (fun k => by rw [spec_ReadObject.p5]) ?_
    rw [hb, h]
    exact Ev.pos rfl (Ev.eq rfl)
  unfold spec_ReadObject.f
  refine Ev.bind (spec_TypesOk_ev types hl hs) (Ev.cases (fun ht => ?_) (fun ht => bad _ rfl (readR_no (fun h => ht h.1))))
  have htl := types_len ht
  by_cases c : 64 ≤ s.size
  rotate_left
  · exact bad _ (decide_eq_true (by omega)) (readR_no (fun h => c h.2.1))
  rw [decide_eq_false (by omega)]
  refine Ev.step (fun k => by rw [spec_ReadObject.p5]) ?_
  refine Ev.neg (by simp) (Ev.pos (by omega) (Ev.bind (spec_ReadWord_ev _ (by rw [ByteArray.size_extract]; omega)) ?_))
  have hw := wordv_extract s 0 (by omega)
  rw [Nat.zero_add] at hw
  rw [hw]
  simp only []
  refine Ev.bindo (l1In_f _ _ _) (Ev.cases (fun c1 => ?_) (fun c1 => ?_))
  rotate_left
  · rw [readR_no (fun h => c1 (by simp; exact h.2.2.1))]
    exact Ev.eq rfl
  simp only [Bool.and_eq_true, decide_eq_true_eq] at c1
  have hb := runL_bound ht (wordv s 0 - 1)
  have hts := type_size ht (wordv s 0 - 1)
  rw [w64 (x := wordv s 0 - 1) (by omega) (by omega)]
  refine Ev.pos (by omega) (Ev.pos (by omega) (Ev.bind (spec_RunOf_ev ht (by omega) (by omega)) ?_))
  rw [w64 (x := 64 * (runL types (wordv s 0 - 1) : Int)) (by omega) (by omega)]
  by_cases c2 : s.size = 64 * runL types (wordv s 0 - 1)
  rotate_left
  · rw [readR_no (fun h => c2 h.2.2.2.1)]
    exact Ev.neg (by omega) (Ev.eq rfl)
  refine Ev.pos (by omega) ?_
  have hO := spec_ObjectBytes_ev types (readO types s) hl hs
  have key : ∀ i, i ≤ (rdOf ByteArray.empty types (wordv s 0 - 1)).size → Ev (fun k => spec_ReadObject.p26 k types s 0 (wordv s 0) (wordv s 0 - 1) ((valsOf s (rdOf ByteArray.empty types (wordv s 0 - 1)).size).take i) (i : Int)) (out3 (readR types s)) := by
    have hvl := valsOf_length s (rdOf ByteArray.empty types (wordv s 0 - 1)).size
    have hvg := valsOf_get s (rdOf ByteArray.empty types (wordv s 0 - 1)).size
    refine down ?_ ?_
    · refine Ev.step (fun k => by rw [spec_ReadObject.p26]) ?_
      rw [w64 (x := wordv s 0 - 1) (by omega) (by omega), List.take_of_length_le (by omega)]
      refine Ev.pos (by omega) (Ev.pos (by omega) (Ev.neg (by omega) (Ev.bind hO ?_)))
      by_cases c3 : bytesR types (readO types s) = s
      · refine Ev.pos (toList_inj.2 c3) (Ev.eq ?_)
        unfold readR
        rw [if_pos ⟨ht, c, c1, c2, c3⟩]
        rfl
      · rw [readR_no (fun h => c3 h.2.2.2.2)]
        exact Ev.neg (fun h => c3 (toList_inj.1 h)) (Ev.eq rfl)
    · intro i hi ih
      have hi2 : i < (valsOf s (rdOf ByteArray.empty types (wordv s 0 - 1)).size).length := by omega
      refine Ev.step (fun k => by rw [spec_ReadObject.p26]) ?_
      rw [take_snoc2 _ i hi2, hvg i hi2] at ih
      have hle : ((valsOf s (rdOf ByteArray.empty types (wordv s 0 - 1)).size).take i).length + 1 ≤ 17592186044416 := by rw [List.length_take]; omega
      generalize (valsOf s (rdOf ByteArray.empty types (wordv s 0 - 1)).size).take i = V at *
      rw [w64 (x := wordv s 0 - 1) (by omega) (by omega), w64s (i := i) (by omega), w64 (x := 8 * (i : Int)) (by omega) (by omega), w64 (x := 16 + 8 * (i : Int)) (by omega) (by omega), w64 (x := 8 + 8 * (i : Int)) (by omega) (by omega)]
      rw [show (8 + 8 * (i : Int)).toNat = 8 + 8 * i from by omega, show (16 + 8 * (i : Int)).toNat = 8 + 8 * i + 8 from by omega]
      refine Ev.pos (by omega) (Ev.pos (by omega) (Ev.pos (by omega) (Ev.pos (by omega) (Ev.pos (by omega) (Ev.pos (by omega) (Ev.pos (by omega) (Ev.bind (spec_ReadWord_ev _ (by rw [ByteArray.size_extract]; omega)) (Ev.pos hle ?_))))))))
      rw [wordv_extract s (8 + 8 * i) (by omega)]
      exact ih
  exact key 0 (Nat.zero_le _)
theorem impl_objectOf_ev {types : List ByteArray} (ht : typesOk types = true) {t : Int} (h0 : 0 ≤ t) (h1 : t < types.length) (s : ByteArray) (hs : s.size = 64 * runL types t) : Ev (fun k => impl_objectOf.f k types t s) (t, valsOf s (rdOf ByteArray.empty types t).size) := by
  have hb := runL_bound ht t
  have hts := type_size ht t
  have hvl := valsOf_length s (rdOf ByteArray.empty types t).size
  have hvg := valsOf_get s (rdOf ByteArray.empty types t).size
  have key : ∀ i, i ≤ (rdOf ByteArray.empty types t).size → Ev (fun k => impl_objectOf.p8 k s 0 t ((valsOf s (rdOf ByteArray.empty types t).size).take i) ((rdOf ByteArray.empty types t).size : Int) (i : Int)) (t, valsOf s (rdOf ByteArray.empty types t).size) := by
    refine down ?_ ?_
    · refine Ev.step (fun k => by rw [impl_objectOf.p8]) ?_
      rw [List.take_of_length_le (by omega)]
      exact Ev.neg (by omega) (Ev.eq rfl)
    · intro i hi ih
      have hi2 : i < (valsOf s (rdOf ByteArray.empty types t).size).length := by omega
      refine Ev.step (fun k => by rw [impl_objectOf.p8]) ?_
      rw [take_snoc2 _ i hi2, hvg i hi2] at ih
      have hle : ((valsOf s (rdOf ByteArray.empty types t).size).take i).length + 1 ≤ 17592186044416 := by rw [List.length_take]; omega
      rw [w64s (i := i) (by omega), w64 (x := 8 * (i : Int)) (by omega) (by omega), w64 (x := 8 + 8 * (i : Int)) (by omega) (by omega), show 8 + 8 * (i : Int) = ((8 + 8 * i : Nat) : Int) from by omega]
      exact Ev.pos (by omega) (Ev.bind (impl_wordAt_ev s (8 + 8 * i) (by omega) (by omega)) (Ev.pos hle ih))
  unfold impl_objectOf.f
  exact Ev.pos h0 (Ev.pos h1 (key 0 (Nat.zero_le _)))
theorem impl_ReadObject_ev (types : List ByteArray) (s : ByteArray) (hs : ∀ x ∈ types, x.size ≤ 1048576) (hz : s.size ≤ 140737488355328) : Ev (fun k => impl_ReadObject.f k types s) (out3 (readR types s)) := by
  have bad : ∀ b, b = true → readR types s = ((0, []), false) → Ev (fun k => impl_ReadObject.p5 k types s 0 b) (out3 (readR types s)) := by
    intro b hb h
    refine Ev.step (fun k => by rw [impl_ReadObject.p5]) ?_
    rw [hb, h]
    exact Ev.pos rfl (Ev.eq rfl)
  unfold impl_ReadObject.f
  refine Ev.bind (impl_TypesOk_ev types hs) (Ev.cases (fun ht => ?_) (fun ht => bad _ rfl (readR_no (fun h => ht h.1))))
  have htl := types_len ht
  by_cases c : 8 ≤ s.size
  rotate_left
  · exact bad _ (decide_eq_true (by omega)) (readR_no (fun h => by have := h.2.1; omega))
  rw [decide_eq_false (by omega)]
  refine Ev.step (fun k => by rw [impl_ReadObject.p5]) ?_
  refine Ev.neg (by simp) (Ev.bind (impl_wordAt_ev s 0 (by omega) hz) (Ev.bindo rfl (Ev.bindo (within_f _ _ _) ?_)))
  have bad2 : ∀ b, b = true → readR types s = ((0, []), false) → Ev (fun k => impl_ReadObject.p15 k types s 0 (wordv s 0) b) (out3 (readR types s)) := by
    intro b hb h
    refine Ev.step (fun k => by rw [impl_ReadObject.p15]) ?_
    rw [hb, h]
    exact Ev.pos rfl (Ev.eq rfl)
  refine Ev.cases (fun c1 => ?_) (fun c1 => bad2 _ rfl (readR_no (fun h => c1 (by simp; exact h.2.2.1))))
  simp only [Bool.and_eq_true, decide_eq_true_eq] at c1
  have hb := runL_bound ht (wordv s 0 - 1)
  have hts := type_size ht (wordv s 0 - 1)
  rw [w64 (x := wordv s 0 - 1) (by omega) (by omega)]
  refine Ev.pos (by omega) (Ev.pos (by omega) (Ev.bindo (impl_runOf_f ht _) ?_))
  rw [w64 (x := 64 * (runL types (wordv s 0 - 1) : Int)) (by omega) (by omega)]
  by_cases c2 : s.size = 64 * runL types (wordv s 0 - 1)
  rotate_left
  · exact bad2 _ (by rw [decide_eq_false (by omega)]; rfl) (readR_no (fun h => c2 h.2.2.2.1))
  rw [decide_eq_true (by omega)]
  refine Ev.step (fun k => by rw [impl_ReadObject.p15]) ?_
  rw [w64 (x := wordv s 0 - 1) (by omega) (by omega)]
  have hO := impl_ObjectBytes_ev types (readO types s) hs
  refine Ev.neg (by simp) (Ev.bind (impl_objectOf_ev ht (by omega) (by omega) s c2) (Ev.bind hO ?_))
  by_cases c3 : bytesR types (readO types s) = s
  · refine Ev.pos (toList_inj.2 c3) (Ev.eq ?_)
    unfold readR
    rw [if_pos ⟨ht, by omega, c1, c2, c3⟩]
    rfl
  · rw [readR_no (fun h => c3 h.2.2.2.2)]
    exact Ev.neg (fun h => c3 (toList_inj.1 h)) (Ev.eq rfl)
end Go.Proofs.YtbpeiilildchlaaGreatDoor.Abs.Pu
namespace Go.Proofs.YtbpeiilildchlaaGreatDoor.Abs.Pu
open Go Go.RowKit
set_option linter.unusedVariables false
set_option linter.unusedSectionVars false
set_option linter.unusedSimpArgs false
theorem isObject_data_ev (c : Cfg) (hc : configOk c = true) (o : Int × List Int) : Ev (fun k => impl_isObject_at_impl_oldObject_1.f k c.2.2.2 o.1 o.2 (c.1, (c.2.1, (c.2.2.1, c.2.2.2)))) (objW (dataRefB c) c.2.2.2 o) := by
  have hf := configOk_facts hc
  have ht := hf.2.2.2.2.2.2.2
  have htl := types_len ht
  have hts := type_size ht o.1
  unfold impl_isObject_at_impl_oldObject_1.f impl_size_string.f objW
  refine Ev.bindo rfl (Ev.bindo (within_f _ _ _) ?_)
  rw [w64 (x := (c.2.2.2.length : Int) - 1) (by omega) (by omega)]
  refine Ev.cases (fun k => ?_) (fun k => ?_)
  · rw [k, Bool.true_and]
    simp only [Bool.and_eq_true, decide_eq_true_eq] at k
    refine Ev.pos k.1 (Ev.pos (by omega) ?_)
    by_cases c2 : o.2.length = (rdOf ByteArray.empty c.2.2.2 o.1).size
    · rw [decide_eq_true c2, Bool.true_and]
      refine Ev.pos (by omega) ?_
      refine refs_ev (g := fun k i => impl_isObject_at_impl_oldObject_1.p14 k c.2.2.2 (c.1, (c.2.1, (c.2.2.1, c.2.2.2))) o.1 o.2 o.2 (o.2.length : Int) i) (t := fun _ x => impl_oldObject_1.f x (c.1, (c.2.1, (c.2.2.1, c.2.2.2)))) k.1 (by omega) c2 (by omega) (fun k i => by rw [impl_isObject_at_impl_oldObject_1.p14]) (fun x _ => ?_)
      unfold impl_oldObject_1.f
      exact Ev.bindo (impl_isDataRef_f c hc x) (Ev.eq rfl)
    · rw [decide_eq_false c2, Bool.false_and]
      exact Ev.neg (by omega) (Ev.eq rfl)
  · rw [Bool.eq_false_iff.2 k, Bool.false_and]
    exact Ev.eq rfl
/-- The facts that both need. -/
theorem old_facts {c : Cfg} {image : ByteArray} (hc : configOk c = true) (hz : (image.size : Int) = 64 * c.1) {n : Nat} (hd : isDataB c (n : Int) = true) : n + 1 ≤ 128 ∧ (n : Int) + 1 ≤ c.1 ∧ 64 * n + 64 ≤ image.size ∧ image.size ≤ 8192 := by
  have hf := configOk_facts hc
  have h := isDataB_facts hd
  omega
theorem oldR_no {c : Cfg} {image : ByteArray} {line : Int} (h : ¬ (isDataB c line = true ∧ (0 ≤ typeAt image line ∧ typeAt image line < c.2.2.2.length) ∧ line + runL c.2.2.2 (typeAt image line) ≤ c.1 ∧ (readR c.2.2.2 (partAt c image line)).2 = true ∧ refsB (dataRefB c) (rdOf ByteArray.empty c.2.2.2 (readR c.2.2.2 (partAt c image line)).1.1) 0 (readR c.2.2.2 (partAt c image line)).1.2 = true)) : oldR c image line = ((0, []), false) := by
  unfold oldR
  rw [if_neg h]
theorem impl_oldObject_ev (c : Cfg) (image : ByteArray) (line : Int) (hc : configOk c = true) (hz : (image.size : Int) = 64 * c.1) (hs : ∀ x ∈ c.2.2.2, x.size ≤ 1048576) : Ev (fun k => impl_oldObject.f k c.1 c.2.1 c.2.2.1 c.2.2.2 image line) (out3 (oldR c image line)) := by
  have hf := configOk_facts hc
  have ht := hf.2.2.2.2.2.2.2
  have htl := types_len ht
  unfold impl_oldObject.f
  refine Ev.bindo (impl_isData_f c hc line) (Ev.cases (fun hd => ?_) (fun hd => by rw [oldR_no (fun h => hd h.1)]; exact Ev.eq rfl))
  have hdf := isDataB_facts hd
  obtain ⟨n, rfl⟩ := Int.eq_ofNat_of_zero_le (show 0 ≤ line by omega)
  obtain ⟨f1, f2, f3, f4⟩ := old_facts hc hz hd
  rw [w64 (x := 64 * (n : Int)) (by omega) (by omega), show 64 * (n : Int) = ((64 * n : Nat) : Int) from by omega]
  refine Ev.bind (impl_wordAt_ev image (64 * n) (by omega) (by omega)) (Ev.bindo rfl (Ev.bindo (within_f _ _ _) ?_))
  have hT : typeAt image (n : Int) = wordv image (64 * n) - 1 := by unfold typeAt; rw [Int.toNat_natCast]
  have bad : ∀ b, b = true → oldR c image (n : Int) = ((0, []), false) → Ev (fun k => impl_oldObject.p15 k image (n : Int) c.1 c.2.1 c.2.2.1 c.2.2.2 0 (wordv image (64 * n)) b) (out3 (oldR c image (n : Int))) := by
    intro b hb h
    refine Ev.step (fun k => by rw [impl_oldObject.p15]) ?_
    rw [hb, h]
    exact Ev.pos rfl (Ev.eq rfl)
  refine Ev.cases (fun c1 => ?_) (fun c1 => bad _ rfl (oldR_no (fun h => c1 (by simp; have := h.2.1; omega))))
  simp only [Bool.and_eq_true, decide_eq_true_eq] at c1
  have hb := runL_bound ht (wordv image (64 * n) - 1)
  rw [w64 (x := wordv image (64 * n) - 1) (by omega) (by omega)]
  refine Ev.pos (by omega) (Ev.pos (by omega) (Ev.bindo (impl_runOf_f ht _) ?_))
  rw [w64 (x := (n : Int) + (runL c.2.2.2 (wordv image (64 * n) - 1) : Int)) (by omega) (by omega)]
  by_cases c2 : (n : Int) + (runL c.2.2.2 (wordv image (64 * n) - 1) : Int) ≤ c.1
  rotate_left
  · exact bad _ (decide_eq_true (by omega)) (oldR_no (fun h => c2 (by rw [← hT]; exact h.2.2.1)))
  rw [decide_eq_false (by omega)]
  refine Ev.step (fun k => by rw [impl_oldObject.p15]) ?_
  rw [w64 (x := wordv image (64 * n) - 1) (by omega) (by omega)]
  refine Ev.neg (by simp) (Ev.pos (by omega) (Ev.pos (by omega) (Ev.bindo (impl_runOf_f ht _) ?_)))
  rw [w64 (x := (n : Int) + (runL c.2.2.2 (wordv image (64 * n) - 1) : Int)) (by omega) (by omega), w64 (x := 64 * ((n : Int) + (runL c.2.2.2 (wordv image (64 * n) - 1) : Int))) (by omega) (by omega), w64 (x := 64 * (n : Int)) (by omega) (by omega),
    show (64 * ((n : Int) + (runL c.2.2.2 (wordv image (64 * n) - 1) : Int))).toNat = 64 * (n + runL c.2.2.2 (wordv image (64 * n) - 1)) from by omega, show (64 * (n : Int)).toNat = 64 * n from by omega]
  have hP : partAt c image (n : Int) = image.extract (64 * n) (64 * (n + runL c.2.2.2 (wordv image (64 * n) - 1))) := by unfold partAt; rw [hT, Int.toNat_natCast]
  rw [← hP]
  have hps : (partAt c image (n : Int)).size ≤ 140737488355328 := by rw [hP, ByteArray.size_extract]; omega
  refine Ev.pos (by omega) (Ev.pos (by omega) (Ev.pos (by omega) (Ev.pos (by omega) (Ev.bind (impl_ReadObject_ev c.2.2.2 _ hs hps) ?_))))
  by_cases c3 : (readR c.2.2.2 (partAt c image (n : Int))).2 = true
  rotate_left
  · rw [oldR_no (fun h => c3 h.2.2.2.1)]
    exact Ev.neg c3 (Ev.eq rfl)
  obtain ⟨r1, _, r3, _, _⟩ := readR_yes c3
  rw [← r1] at r3
  refine Ev.pos c3 (Ev.bind (isObject_data_ev c hc (readR c.2.2.2 (partAt c image (n : Int))).1) ?_)
  obtain ⟨o1, o2, o3, o4, o5, o6, o7⟩ := objOk8_facts r3
  have hW : objW (dataRefB c) c.2.2.2 (readR c.2.2.2 (partAt c image (n : Int))).1 = refsB (dataRefB c) (rdOf ByteArray.empty c.2.2.2 (readR c.2.2.2 (partAt c image (n : Int))).1.1) 0 (readR c.2.2.2 (partAt c image (n : Int))).1.2 := by
    unfold objW
    rw [decide_eq_true o2, decide_eq_true (by omega), decide_eq_true o5]
    rfl
  rw [hW]
  refine Ev.cases (fun c4 => Ev.eq ?_) (fun c4 => ?_)
  · unfold oldR
    rw [if_pos ⟨hd, by omega, by rw [hT]; exact c2, c3, c4⟩]
    rfl
  · rw [oldR_no (fun h => c4 h.2.2.2.2)]
    exact Ev.eq rfl
theorem spec_l10Old_ev (c : Cfg) (image : ByteArray) (line : Int) (hc : configOk c = true) (hz : (image.size : Int) = 64 * c.1) (hl : c.2.2.2.length ≤ 1048576) (hs : ∀ x ∈ c.2.2.2, x.size ≤ 1048576) (hd : isDataB c line = true) : Ev (fun k => spec_l10Old.f k c.1 c.2.1 c.2.2.1 c.2.2.2 image line) (out3 (oldR c image line)) := by
  have hf := configOk_facts hc
  have ht := hf.2.2.2.2.2.2.2
  have htl := types_len ht
  have hdf := isDataB_facts hd
  obtain ⟨n, rfl⟩ := Int.eq_ofNat_of_zero_le (show 0 ≤ line by omega)
  obtain ⟨f1, f2, f3, f4⟩ := old_facts hc hz hd
  have hT : typeAt image (n : Int) = wordv image (64 * n) - 1 := by unfold typeAt; rw [Int.toNat_natCast]
  unfold spec_l10Old.f
  have bad : oldR c image (n : Int) = ((0, []), false) → ∀ {g : Nat → Option (Int × List Int × Bool)}, Ev g (0, [], false) → Ev (fun k => (g k).bind fun t1 => (if t1.2.2 = true then (spec_l10Old.p16 k c.1 c.2.1 c.2.2.1 c.2.2.2 0 t1.1 t1.2.1 0) else (some (0, ([] : List Int), false)))) (out3 (oldR c image (n : Int))) := by
    intro h g hg
    rw [h]
    exact Ev.bind hg (Ev.neg (by simp) (Ev.eq rfl))
  have hw := spec_l9Word_ev image (8 * n) (by omega) (by omega)
  rw [show 8 * (8 * n) = 64 * n from by omega] at hw
  by_cases c1 : 1 ≤ wordv image (64 * n) ∧ wordv image (64 * n) ≤ c.2.2.2.length
  rotate_left
  · refine bad (oldR_no (fun h => c1 (by have := h.2.1; omega))) ?_
    unfold spec_l10Obj.f
    rw [w64 (x := 8 * (n : Int)) (by omega) (by omega), show 8 * (n : Int) = ((8 * n : Nat) : Int) from by omega]
    refine Ev.bind hw (Ev.bindo (l1In_f _ _ _) (Ev.neg (by simp only [Bool.and_eq_true, decide_eq_true_eq]; exact c1) (Ev.eq rfl)))
  have hb := runL_bound ht (wordv image (64 * n) - 1)
  have hrun := spec_RunOf_ev ht (t := wordv image (64 * n) - 1) (by omega) (by omega)
  by_cases c2 : (n : Int) + (runL c.2.2.2 (wordv image (64 * n) - 1) : Int) ≤ c.1
  rotate_left
  · refine bad (oldR_no (fun h => c2 (by rw [← hT]; exact h.2.2.1))) ?_
    unfold spec_l10Obj.f
    rw [w64 (x := 8 * (n : Int)) (by omega) (by omega), show 8 * (n : Int) = ((8 * n : Nat) : Int) from by omega]
    refine Ev.bind hw (Ev.bindo (l1In_f _ _ _) (Ev.pos (by simp only [Bool.and_eq_true, decide_eq_true_eq]; exact c1) ?_))
    rw [w64 (x := wordv image (64 * n) - 1) (by omega) (by omega)]
    refine Ev.pos (by omega) (Ev.pos (by omega) (Ev.bind hrun ?_))
    rw [w64 (x := (n : Int) + (runL c.2.2.2 (wordv image (64 * n) - 1) : Int)) (by omega) (by omega), w64 (x := 64 * ((n : Int) + (runL c.2.2.2 (wordv image (64 * n) - 1) : Int))) (by omega) (by omega)]
    exact Ev.pos (by omega) (Ev.eq rfl)
  have hP : partAt c image (n : Int) = image.extract (64 * n) (64 * (n + runL c.2.2.2 (wordv image (64 * n) - 1))) := by unfold partAt; rw [hT, Int.toNat_natCast]
  have hps : (partAt c image (n : Int)).size ≤ 140737488355328 := by rw [hP, ByteArray.size_extract]; omega
  have hobj : Ev (fun k => spec_l10Obj.f k c.1 c.2.1 c.2.2.1 c.2.2.2 image (n : Int)) (out3 (readR c.2.2.2 (partAt c image (n : Int)))) := by
    unfold spec_l10Obj.f
    rw [w64 (x := 8 * (n : Int)) (by omega) (by omega), show 8 * (n : Int) = ((8 * n : Nat) : Int) from by omega]
    refine Ev.bind hw (Ev.bindo (l1In_f _ _ _) (Ev.pos (by simp only [Bool.and_eq_true, decide_eq_true_eq]; exact c1) ?_))
    rw [w64 (x := wordv image (64 * n) - 1) (by omega) (by omega)]
    refine Ev.pos (by omega) (Ev.pos (by omega) (Ev.bind hrun ?_))
    rw [w64 (x := (n : Int) + (runL c.2.2.2 (wordv image (64 * n) - 1) : Int)) (by omega) (by omega), w64 (x := 64 * ((n : Int) + (runL c.2.2.2 (wordv image (64 * n) - 1) : Int))) (by omega) (by omega), w64 (x := 64 * (n : Int)) (by omega) (by omega),
      show (64 * ((n : Int) + (runL c.2.2.2 (wordv image (64 * n) - 1) : Int))).toNat = 64 * (n + runL c.2.2.2 (wordv image (64 * n) - 1)) from by omega, show (64 * (n : Int)).toNat = 64 * n from by omega, ← hP]
    exact Ev.neg (by omega) (Ev.pos (by omega) (Ev.pos (by omega) (Ev.pos (by omega) (Ev.pos (by omega) (Ev.bind (spec_ReadObject_ev c.2.2.2 _ hl hs hps) (Ev.eq rfl))))))
  refine Ev.bind hobj ?_
  by_cases c3 : (readR c.2.2.2 (partAt c image (n : Int))).2 = true
  rotate_left
  · rw [oldR_no (fun h => c3 h.2.2.2.1)]
    exact Ev.neg c3 (Ev.eq rfl)
  obtain ⟨r1, _, r3, _, _⟩ := readR_yes c3
  rw [← r1] at r3
  obtain ⟨o1, o2, o3, o4, o5, o6, o7⟩ := objOk8_facts r3
  refine Ev.pos c3 ?_
  have hR : oldR c image (n : Int) = if refsB (dataRefB c) (rdOf ByteArray.empty c.2.2.2 (readR c.2.2.2 (partAt c image (n : Int))).1.1) 0 (readR c.2.2.2 (partAt c image (n : Int))).1.2 = true then ((readR c.2.2.2 (partAt c image (n : Int))).1, true) else ((0, []), false) := by
    split
    · rename_i c4
      unfold oldR
      rw [if_pos ⟨hd, by omega, by rw [hT]; exact c2, c3, c4⟩]
    · rename_i c4
      exact oldR_no (fun h => c4 h.2.2.2.2)
  rw [hR]
  generalize (readR c.2.2.2 (partAt c image (n : Int))) = R at *
  obtain ⟨⟨tp, vals⟩, b⟩ := R
  simp only [out3] at *
  have key : ∀ i, i ≤ vals.length → Ev (fun k => spec_l10Old.p16 k c.1 c.2.1 c.2.2.1 c.2.2.2 0 tp vals (i : Int)) (out3 (if refsB (dataRefB c) (rdOf ByteArray.empty c.2.2.2 tp) i (vals.drop i) = true then ((tp, vals), true) else ((0, []), false))) := by
    refine down ?_ ?_
    · refine Ev.step (fun k => by rw [spec_l10Old.p16]) ?_
      rw [List.drop_eq_nil_of_le (Nat.le_refl _)]
      exact Ev.neg (by omega) (Ev.eq rfl)
    · intro i hi ih
      refine Ev.step (fun k => by rw [spec_l10Old.p16]) ?_
      rw [rd_get hi, w64s (i := i) (by omega), List.drop_eq_getElem_cons hi, refsB]
      refine Ev.pos (by omega) (Ev.pos o2 (Ev.pos o3 (Ev.pos (by omega) (Ev.pos (by omega) ?_))))
      by_cases k1 : bt (rdOf ByteArray.empty c.2.2.2 tp) (i : Int) = 114
      · rw [if_pos k1]
        refine Ev.pos k1 (Ev.pos (by omega) (Ev.pos (by omega) (Ev.bindo (spec_l10Ref_f c hc _) (Ev.cases (fun k2 => ?_) (fun k2 => ?_)))))
        · rw [k2, Bool.true_and]
          exact ih
        · rw [Bool.eq_false_iff.2 k2, Bool.false_and]
          exact Ev.eq rfl
      · rw [if_neg k1]
        exact Ev.neg k1 ih
  have := key 0 (Nat.zero_le _)
  rw [List.drop_zero] at this
  exact this
end Go.Proofs.YtbpeiilildchlaaGreatDoor.Abs.Pu
namespace Go.Proofs.YtbpeiilildchlaaGreatDoor.Abs.Pu
open Go Go.RowKit
set_option linter.unusedVariables false
set_option linter.unusedSectionVars false
set_option linter.unusedSimpArgs false
theorem spec_l10Refs_ev (c : Cfg) (h : configOk c = true) (l : List Int) (hl : l.length ≤ 1099511627776) : Ev (fun k => spec_l10Refs.f k c.1 c.2.1 c.2.2.1 c.2.2.2 l) (l.all (dataRefB c)) := by
  unfold spec_l10Refs.f
  rw [← Bool.and_true (l.all _)]
  refine all_ev (g := fun k i => spec_l10Refs.p6 k l c.1 c.2.1 c.2.2.1 c.2.2.2 i) (fun i hi => ⟨fun hp r hr => ?_, fun hp => ?_⟩) true ?_
  · refine Ev.step (fun k => by rw [spec_l10Refs.p6]) ?_
    rw [rd_get hi, w64s (i := i) (by omega)]
    exact Ev.pos (by omega) (Ev.pos (by omega) (Ev.pos (by omega) (Ev.bindo (spec_l10Ref_f c h _) (Ev.pos hp hr))))
  · refine Ev.step (fun k => by rw [spec_l10Refs.p6]) ?_
    rw [rd_get hi]
    exact Ev.pos (by omega) (Ev.pos (by omega) (Ev.pos (by omega) (Ev.bindo (spec_l10Ref_f c h _) (Ev.neg (by rw [hp]; simp) (Ev.eq rfl)))))
  · refine Ev.step (fun k => by rw [spec_l10Refs.p6]) ?_
    exact Ev.neg (by omega) (Ev.eq rfl)
end Go.Proofs.YtbpeiilildchlaaGreatDoor.Abs.Pu
namespace Go.Proofs.YtbpeiilildchlaaGreatDoor.Abs.Pu
open Go Go.RowKit
set_option linter.unusedVariables false
set_option linter.unusedSectionVars false
set_option linter.unusedSimpArgs false
theorem set_snoc (a : List (Int × List Int)) (t : Int) (vs : List Int) : (a ++ ([(t, vs)] : List (Int × List Int))).set a.length (((a ++ ([(t, vs)] : List (Int × List Int))).getD a.length (0, [])).1, vs) = a ++ [(t, vs)] := by
  rw [List.getD_eq_getElem?_getD, List.getElem?_append_right (Nat.le_refl _), Nat.sub_self, List.set_append_right _ _ (Nat.le_refl _), Nat.sub_self]
  rfl
/-- Nodes as they are read: the first number of each row left out. -/
def cutN (l : List (Int × List Int)) : List (Int × List Int) := l.map fun x => (x.1, x.2.drop 1)
theorem cut_eq (l : List (Int × List Int)) : Ty.cut (.pair (.int .i64) (.sl (.int .i64))) 1 l = cutN l := rfl
end Go.Proofs.YtbpeiilildchlaaGreatDoor.Abs.Pu
namespace Go.Proofs.YtbpeiilildchlaaGreatDoor.Abs.Pu
open Go Go.RowKit
set_option linter.unusedVariables false
set_option linter.unusedSectionVars false
set_option linter.unusedSimpArgs false
theorem walk_facts1 {c : Cfg} {image : ByteArray} (hi : isImageB c image = true) : configOk c = true ∧ (image.size : Int) = 64 * c.1 ∧ typesOk c.2.2.2 = true ∧ c.1 ≤ 128 := by
  obtain ⟨hc, hz⟩ := isImageB_facts hi
  have hf := configOk_facts hc
  exact ⟨hc, hz, hf.2.2.2.2.2.2.2, hf.2.1⟩
theorem half_g {v : Int} (h : 0 ≤ v) (h2 : v ≤ 1000000) : wrap64 (Int.tdiv v 2) = v / 2 := by
  rw [Int.tdiv_eq_ediv_of_nonneg h, w64 (by omega) (by omega)]
theorem dataRef_rng {c : Cfg} {v : Int} (h : dataRefB c v = true) : 0 ≤ v ∧ v ≤ 254 := by
  by_cases h0 : v = 0
  · omega
  · have := (dataRef_facts h h0).2; omega
theorem place_f (l : List Int) (x : Int) (hl : l.length ≤ 1099511627776) : ∃ r, Ev (fun k => spec_l7Place.f k l x) r ∧ (r < 0 ↔ x ∉ l) := by
  obtain ⟨r, e, h⟩ := placeIn_ev l x hl
  refine ⟨r, e, ?_⟩
  rcases h with ⟨h1, h2⟩ | ⟨h1, h2⟩
  · exact ⟨fun h => absurd h (by omega), fun h => absurd h2 h⟩
  · exact ⟨fun _ => h2, fun _ => by omega⟩
theorem linesR_snoc (x : Int) (j : Nat) : linesR x (j + 1) = linesR x j ++ [x + (j : Int)] := by
  unfold linesR
  rw [List.range_succ, List.map_append]
  rfl
def finS : Option (List Int × List (Int × List Int) × ByteArray) → List Int × List (Int × List Int) × Bool
  | some (L, O, M) => (L, O, true)
  | none => ([], [], false)
set_option maxHeartbeats 1000000 in
theorem spec_l10Find_ev (c : Cfg) (image : ByteArray) (refs : List Int) (hl : c.2.2.2.length ≤ 1048576) (hs : ∀ x ∈ c.2.2.2, x.size ≤ 1048576) (hr : refs.length ≤ 1099511627776) (hi : isImageB c image = true) (h2 : refs.all (dataRefB c) = true) : Ev (fun k => spec_l10Find.f k c.1 c.2.1 c.2.2.1 c.2.2.2 image refs) (finS (walkR c image refs)) := by
  obtain ⟨hc, hz, ht, hc1⟩ := walk_facts1 hi
  have hall := List.all_eq_true.1 h2
  unfold spec_l10Find.f walkR
  rw [if_pos ⟨hi, h2⟩]
  have walk : ∀ (d i : Nat) (ls : List Int) (os : List (Int × List Int)) (m : ByteArray), 129 ≤ i + d → WSt c image i ls os m → Ev (fun k => spec_l10Find.p31 k image c.1 c.2.1 c.2.2.1 c.2.2.2 ls os (takenL c (ls.take i) os) (i : Int)) (finS (walkF c image d i ls os m)) := by
    intro d
    induction d with
    | zero =>
      intro i ls os m hd h
      have := h.li.len hc
      have := h.il
      omega
    | succ d ih =>
      intro i ls os m hd h
      have hlen := h.li.len hc
      have hol := h.ol
      refine Ev.step (fun k => by rw [spec_l10Find.p31]) ?_
      rw [walkF]
      by_cases k1 : i < ls.length
      rotate_left
      · rw [if_neg k1]
        exact Ev.neg (by omega) (Ev.eq rfl)
      rw [if_pos k1]
      have hst := h.step hc hz k1
      have hme : rd ls (i : Int) ∈ ls := by rw [rd_get k1]; exact List.getElem_mem k1
      have hdat := isDataB_facts (h.li.ok _ hme)
      have hx0 : 0 ≤ rd ls (i : Int) ∧ rd ls (i : Int) ≤ 127 := by have := configOk_facts hc; omega
      have hO := spec_l10Old_ev c image (rd ls (i : Int)) hc hz hl hs (h.li.ok _ hme)
      have hT := h.mt
      have hTl : (takenL c (ls.take i) os).length ≤ 128 := by
        have := nodup_len (takenL c (ls.take i) os) ((List.range 128).map fun n : Nat => (n : Int)) hT.nd (fun x hx => by
          have := hT.rg x hx
          exact List.mem_map.2 ⟨x.toNat, List.mem_range.2 (by omega), by omega⟩)
        simpa using this
      have hsnoc := fun o => takenL_snoc c (ls.take i) os (rd ls (i : Int)) o (by rw [List.length_take]; omega)
      have htk : ∀ k, (ls ++ k).take (i + 1) = ls.take i ++ [rd ls (i : Int)] := fun k => by
        rw [List.take_append_of_le_length (by omega), take_snoc2 ls i k1, rd_get k1]
      have hrdp : ∀ k, rd (ls ++ k) (i : Int) = rd ls (i : Int) := fun k => rd_pref k1
      generalize hx : rd ls (i : Int) = x at *
      generalize takenL c (ls.take i) os = T at *
      refine Ev.pos (by omega) (Ev.pos (by omega) (Ev.pos (by omega) (Ev.bind hO ?_)))
      by_cases k2 : (oldR c image x).2 = true
      rotate_left
      · rw [if_neg k2]
        exact Ev.neg k2 (Ev.eq rfl)
      rw [if_pos k2]
      obtain ⟨y1, y2, y3, y4⟩ := oldR_yes hc hz k2
      have hst := hst k2
      obtain ⟨o1, o2, o3, o4, o5, o6, o7⟩ := objOk8_facts y2
      have hrun : runL c.2.2.2 (oldR c image x).1.1 = runO c (oldR c image x).1 := rfl
      have hkd : kdO c (oldR c image x).1 = rdOf ByteArray.empty c.2.2.2 (oldR c image x).1.1 := rfl
      have hout : out3 (oldR c image x) = ((oldR c image x).1.1, (oldR c image x).1.2, (oldR c image x).2) := rfl
      have hrb := runL_bound ht (oldR c image x).1.1
      have hrf := spec_RunOf_ev ht o2 o3
      rw [hout]
      refine Ev.pos k2 ?_
      simp only []
      generalize (oldR c image x).1 = o at *
      rw [hrun] at hrf hrb y3
      have htake := hT.take_iff (a := x) (n := runO c o) (by omega) (by omega) (by omega)
      -- behind the run
      have refsP : (runResult m true x (runO c o)).2 = true → Ev (fun k => spec_l10Find.p77 k image c.1 c.2.1 c.2.2.1 c.2.2.2 ls os (T ++ linesR x (runO c o)) (i : Int) o.1 o.2 0) (finS (walkF c image d (i + 1) (vlsS (kdO c o) 0 o.2 ls) (os ++ [o]) (runResult m true x (runO c o)).1)) := by
        intro k3
        have hst := hst k3
        have lp : ∀ (l : List Int) (q : Nat) (ls' : List Int), q ≤ o.2.length → l = o.2.drop q → LInv c ls' → (∃ k, ls' = ls ++ k) → refsB (dataRefB c) (kdO c o) q l = true → vlsS (kdO c o) q l ls' = vlsS (kdO c o) 0 o.2 ls →
            Ev (fun k => spec_l10Find.p77 k image c.1 c.2.1 c.2.2.1 c.2.2.2 ls' os (T ++ linesR x (runO c o)) (i : Int) o.1 o.2 (q : Int)) (finS (walkF c image d (i + 1) (vlsS (kdO c o) 0 o.2 ls) (os ++ [o]) (runResult m true x (runO c o)).1)) := by
          intro l
          induction l with
          | nil =>
            intro q ls' hq hl' hli hpre hrf' hv
            have hqe : q = o.2.length := by
              have := congrArg List.length hl'
              rw [List.length_nil, List.length_drop] at this
              omega
            refine Ev.step (fun k => by rw [spec_l10Find.p77]) ?_
            rw [w64s (i := i) (by omega)]
            try rw [set_snoc]
            rw [vlsS] at hv
            rw [← hv] at hst ⊢
            have := ih (i + 1) ls' (os ++ [o]) _ (by omega) hst
            obtain ⟨k, rfl⟩ := hpre
            rw [htk, hsnoc] at this
            exact Ev.neg (by omega) (Ev.pos (by omega) this)
          | cons v l ihl =>
            intro q ls' hq hl' hli hpre hrf' hv
            have hq2 : q < o.2.length := by
              have := congrArg List.length hl'
              rw [List.length_cons, List.length_drop] at this
              omega
            have hlen' := hli.len hc
            rw [List.drop_eq_getElem_cons hq2] at hl'
            injection hl' with hv1 hl1
            refine Ev.step (fun k => by rw [spec_l10Find.p77]) ?_
            rw [rd_get hq2, ← hv1]
            rw [vlsS] at hv
            rw [refsB] at hrf'
            have stay : ∀ b : Bool, b = false → vlsS (kdO c o) (q + 1) l ls' = vlsS (kdO c o) 0 o.2 ls → refsB (dataRefB c) (kdO c o) (q + 1) l = true → Ev (fun k => spec_l10Find.p88 k image c.1 c.2.1 c.2.2.1 c.2.2.2 ls' os (T ++ linesR x (runO c o)) (i : Int) o.1 o.2 (q : Int) b) (finS (walkF c image d (i + 1) (vlsS (kdO c o) 0 o.2 ls) (os ++ [o]) (runResult m true x (runO c o)).1)) := by
              intro b hb a1 a2
              refine Ev.step (fun k => by rw [spec_l10Find.p88]) ?_
              rw [hb, w64s (i := q) (by omega)]
              exact Ev.neg (by simp) (ihl (q + 1) ls' (by omega) hl1 hli hpre a2 a1)
            refine Ev.pos (by omega) (Ev.pos o2 (Ev.pos o3 (Ev.pos (by omega) (Ev.pos (by omega) ?_))))
            by_cases k4 : bt (kdO c o) (q : Int) = 114
            rotate_left
            · rw [if_neg k4] at hv hrf'
              exact Ev.neg k4 (stay _ rfl hv hrf')
            rw [if_pos k4] at hv hrf'
            rw [Bool.and_eq_true] at hrf'
            refine Ev.pos k4 (Ev.pos (by omega) (Ev.pos (by omega) ?_))
            by_cases k5 : v = 0
            · refine Ev.pos k5 (stay _ rfl ?_ hrf'.2)
              rw [← hv]
              unfold seeL
              rw [if_neg (fun h => h.1 k5)]
            have hrg := dataRef_rng hrf'.1
            obtain ⟨r, er, hri⟩ := place_f ls' (v / 2) (by omega)
            rw [half_g hrg.1 (by omega)]
            refine Ev.neg k5 (Ev.pos (by omega) (Ev.pos (by omega) (Ev.bind er ?_)))
            by_cases k6 : v / 2 ∈ ls'
            · refine stay _ (decide_eq_false (fun h => hri.1 h k6)) ?_ hrf'.2
              rw [← hv]
              unfold seeL
              rw [if_neg (fun h => h.2 k6)]
            · rw [decide_eq_true (hri.2 k6)]
              refine Ev.step (fun k => by rw [spec_l10Find.p88]) ?_
              rw [rd_get hq2, ← hv1, half_g hrg.1 (by omega), w64s (i := q) (by omega)]
              have hsee : seeL ls' v = ls' ++ [v / 2] := by unfold seeL; rw [if_pos ⟨k5, k6⟩]
              have hli2 := hli.see hrf'.1
              rw [hsee] at hv hli2
              obtain ⟨kk, hkk⟩ := hpre
              exact Ev.pos rfl (Ev.pos (by omega) (Ev.pos (by omega) (Ev.pos (by omega) (ihl (q + 1) _ (by omega) hl1 hli2 ⟨kk ++ [v / 2], by rw [hkk, List.append_assoc]⟩ hrf'.2 hv))))
        exact lp o.2 0 ls (by omega) rfl h.li ⟨[], by simp⟩ y4 rfl
      -- the run
      have runP : ∀ j, j ≤ runO c o → (∀ y, x ≤ y → y < x + j → y ∉ T) → Ev (fun k => spec_l10Find.p54 k image c.1 c.2.1 c.2.2.1 c.2.2.2 ls os (T ++ linesR x j) (i : Int) o.1 o.2 (j : Int)) (finS (if (runResult m true x (runO c o)).2 = true then walkF c image d (i + 1) (vlsS (kdO c o) 0 o.2 ls) (os ++ [o]) (runResult m true x (runO c o)).1 else none)) := by
        refine down ?_ ?_
        · intro hf
          have k3 := htake.2 hf
          rw [if_pos k3]
          refine Ev.step (fun k => by rw [spec_l10Find.p54]) ?_
          exact Ev.pos o2 (Ev.pos o3 (Ev.bind hrf (Ev.neg (by omega) (refsP k3))))
        · intro j hj ihj hf
          refine Ev.step (fun k => by rw [spec_l10Find.p54]) ?_
          have hTj : (T ++ linesR x j).length ≤ 200 := by rw [List.length_append, linesR_length]; omega
          obtain ⟨r, er, hri⟩ := place_f (T ++ linesR x j) (x + (j : Int)) (by omega)
          rw [hx, w64 (x := x + (j : Int)) (by omega) (by omega), w64s (i := j) (by omega)]
          have hnl : x + (j : Int) ∉ linesR x j := fun h => by rw [mem_linesR] at h; omega
          refine Ev.pos o2 (Ev.pos o3 (Ev.bind hrf (Ev.pos (by omega) (Ev.pos (by omega) (Ev.pos (by omega) (Ev.bind er ?_))))))
          by_cases k6 : x + (j : Int) ∈ T
          · have hneg : ¬ (runResult m true x (runO c o)).2 = true := fun h => htake.1 h (x + j) (by omega) (by omega) k6
            rw [if_neg hneg]
            refine Ev.pos ?_ (Ev.eq rfl)
            have : ¬ r < 0 := fun h => hri.1 h (List.mem_append_left _ k6)
            omega
          · have hlt : r < 0 := hri.2 (fun h => (List.mem_append.1 h).elim k6 hnl)
            have := ihj (fun y h0 h1 => by
              by_cases e : y = x + j
              · rw [e]; exact k6
              · exact hf y h0 (by omega))
            rw [linesR_snoc, ← List.append_assoc] at this
            exact Ev.neg (by omega) (Ev.pos (by omega) (Ev.pos (by omega) (Ev.pos (by omega) this)))
      have := runP 0 (Nat.zero_le _) (fun y h0 h1 => by omega)
      rw [show linesR x 0 = [] from rfl, List.append_nil] at this
      exact this
  have lp : ∀ (l : List Int) (q : Nat) (ls : List Int), q ≤ refs.length → l = refs.drop q → LInv c ls → (∀ x ∈ l, dataRefB c x = true) → l.foldl seeL ls = refs.foldl seeL [] →
      Ev (fun k => spec_l10Find.p8 k image refs c.1 c.2.1 c.2.2.1 c.2.2.2 ls (q : Int)) (finS (walkF c image 129 0 (refs.foldl seeL []) [] (zerosB 64))) := by
    intro l
    induction l with
    | nil =>
      intro q ls hq hl' hli hd hv
      have hqe : q = refs.length := by
        have := congrArg List.length hl'
        rw [List.length_nil, List.length_drop] at this
        omega
      refine Ev.step (fun k => by rw [spec_l10Find.p8]) ?_
      rw [List.foldl_nil] at hv
      have hst := WSt.start (c := c) (image := image) hall
      rw [← hv] at hst ⊢
      have := walk 129 0 ls [] _ (by omega) hst
      rw [List.take_zero] at this
      exact Ev.neg (by omega) this
    | cons v l ihl =>
      intro q ls hq hl' hli hd hv
      have hq2 : q < refs.length := by
        have := congrArg List.length hl'
        rw [List.length_cons, List.length_drop] at this
        omega
      have hlen' := hli.len hc
      rw [List.drop_eq_getElem_cons hq2] at hl'
      injection hl' with hv1 hl1
      have hdv := hd v (by simp)
      have hd2 : ∀ x ∈ l, dataRefB c x = true := fun x hx => hd x (List.mem_cons_of_mem _ hx)
      rw [List.foldl_cons] at hv
      refine Ev.step (fun k => by rw [spec_l10Find.p8]) ?_
      rw [rd_get hq2, ← hv1, w64s (i := q) (by omega)]
      refine Ev.pos (by omega) (Ev.pos (by omega) (Ev.pos (by omega) ?_))
      by_cases k5 : v = 0
      · have hsee : seeL ls v = ls := by unfold seeL; rw [if_neg (fun h => h.1 k5)]
        rw [hsee] at hv
        exact Ev.pos k5 (ihl (q + 1) ls (by omega) hl1 hli hd2 hv)
      have hrg := dataRef_rng hdv
      obtain ⟨r, er, hri⟩ := place_f ls (v / 2) (by omega)
      rw [half_g hrg.1 (by omega)]
      refine Ev.neg k5 (Ev.pos (by omega) (Ev.pos (by omega) (Ev.bind er ?_)))
      by_cases k6 : v / 2 ∈ ls
      · have hsee : seeL ls v = ls := by unfold seeL; rw [if_neg (fun h => h.2 k6)]
        rw [hsee] at hv
        exact Ev.neg (fun h => hri.1 h k6) (ihl (q + 1) ls (by omega) hl1 hli hd2 hv)
      · have hsee : seeL ls v = ls ++ [v / 2] := by unfold seeL; rw [if_pos ⟨k5, k6⟩]
        have hli2 := hli.see hdv
        rw [hsee] at hv hli2
        exact Ev.pos (hri.2 k6) (Ev.pos (by omega) (Ev.pos (by omega) (Ev.pos (by omega) (ihl (q + 1) _ (by omega) hl1 hli2 hd2 hv))))
  exact lp refs 0 [] (by omega) rfl ⟨by simp, fun x hx => by cases hx⟩ hall rfl
end Go.Proofs.YtbpeiilildchlaaGreatDoor.Abs.Pu
namespace Go.Proofs.YtbpeiilildchlaaGreatDoor.Abs.Pu
open Go Go.RowKit
set_option linter.unusedVariables false
set_option linter.unusedSectionVars false
set_option linter.unusedSimpArgs false
/-- The eight words of the roots. -/
def slotsR (s : ByteArray) : List Int := (List.range 8).map fun i => wordv s (128 + 8 * i)
theorem slots_take (s : ByteArray) (i : Nat) (h : i < 8) : (slotsR s).take (i + 1) = (slotsR s).take i ++ [wordv s (128 + 8 * i)] := by
  have hl : (slotsR s).length = 8 := by simp [slotsR]
  rw [take_snoc2 _ _ (by omega)]
  congr 2
  simp [slotsR]
theorem spec_l10Slots_ev (s : ByteArray) (h : 192 ≤ s.size) (hs : s.size ≤ 140737488355328) : Ev (fun k => spec_l10Slots.f k s) (slotsR s) := by
  have hl : (slotsR s).length = 8 := by simp [slotsR]
  have key : ∀ i, i ≤ 8 → Ev (fun k => spec_l10Slots.p8 k s ((slotsR s).take i) (i : Int)) (slotsR s) := by
    refine down ?_ ?_
    · refine Ev.step (fun k => by rw [spec_l10Slots.p8]) ?_
      rw [List.take_of_length_le (by omega)]
      exact Ev.neg (by omega) (Ev.eq rfl)
    · intro i hi ih
      refine Ev.step (fun k => by rw [spec_l10Slots.p8]) ?_
      rw [w64s (i := i) (by omega), show wrap64 (16 + (i : Int)) = ((16 + i : Nat) : Int) from by rw [w64 (by omega) (by omega)]; omega]
      rw [slots_take s i hi, show 128 + 8 * i = 8 * (16 + i) from by omega] at ih
      exact Ev.pos (by omega) (Ev.bind (spec_l9Word_ev s _ (by omega) hs) (Ev.pos (by rw [List.length_take]; omega) ih))
  unfold spec_l10Slots.f
  exact key 0 (by omega)
end Go.Proofs.YtbpeiilildchlaaGreatDoor.Abs.Pu
namespace Go.Proofs.YtbpeiilildchlaaGreatDoor.Abs.Pu
open Go Go.RowKit
set_option linter.unusedVariables false
set_option linter.unusedSectionVars false
set_option linter.unusedSimpArgs false
theorem impl_wordsOf_ev (s : ByteArray) (h : 192 ≤ s.size) (hs : s.size ≤ 140737488355328) : Ev (fun k => impl_wordsOf.f k s 2) (slotsR s) := by
  have hl : (slotsR s).length = 8 := by simp [slotsR]
  have key : ∀ i, i ≤ 8 → Ev (fun k => impl_wordsOf.p8 k s 2 ((slotsR s).take i) (i : Int)) (slotsR s) := by
    refine down ?_ ?_
    · refine Ev.step (fun k => by rw [impl_wordsOf.p8]) ?_
      rw [List.take_of_length_le (by omega)]
      exact Ev.neg (by omega) (Ev.eq rfl)
    · intro i hi ih
      refine Ev.step (fun k => by rw [impl_wordsOf.p8]) ?_
      rw [w64s (i := i) (by omega), show wrap64 (wrap64 (64 * 2) + wrap64 (8 * (i : Int))) = ((128 + 8 * i : Nat) : Int) from by rw [w64 (x := 64 * 2) (by omega) (by omega), w64 (x := 8 * (i : Int)) (by omega) (by omega), w64 (by omega) (by omega)]; omega]
      rw [slots_take s i hi] at ih
      exact Ev.pos (by omega) (Ev.bind (impl_wordAt_ev s _ (by omega) hs) (Ev.pos (by rw [List.length_take]; omega) ih))
  unfold impl_wordsOf.f
  exact key 0 (by omega)
end Go.Proofs.YtbpeiilildchlaaGreatDoor.Abs.Pu
namespace Go.Proofs.YtbpeiilildchlaaGreatDoor.Abs.Pu
open Go Go.RowKit
set_option linter.unusedVariables false
set_option linter.unusedSectionVars false
set_option linter.unusedSimpArgs false
def rootsR (c : Cfg) (s : ByteArray) : List Int × Bool := if isImageB c s = true then (if (slotsR s).all (dataRefB c) = true then (slotsR s, true) else ([], false)) else ([], false)
theorem impl_RootsOf_ev (c : Cfg) (s : ByteArray) (hs : ∀ x ∈ c.2.2.2, x.size ≤ 1048576) : Ev (fun k => impl_RootsOf.f k c.1 c.2.1 c.2.2.1 c.2.2.2 s) (rootsR c s) := by
  unfold impl_RootsOf.f rootsR
  refine Ev.bind (impl_isImage_ev c s hs) ?_
  by_cases h : isImageB c s = true
  rotate_left
  · rw [if_neg h]
    exact Ev.neg h (Ev.eq rfl)
  rw [if_pos h]
  obtain ⟨hc, hz⟩ := isImageB_facts h
  have hf := configOk_facts hc
  have hl : (slotsR s).length = 8 := by simp [slotsR]
  refine Ev.pos h (Ev.bind (impl_wordsOf_ev s (by omega) (by omega)) ?_)
  have hany : Ev (fun k => slices_ContainsFunc_int64_at_impl_RootsOf_1.f k (slotsR s) (c.1, (c.2.1, (c.2.2.1, c.2.2.2)))) ((slotsR s).any fun x => !dataRefB c x) := by
    unfold slices_ContainsFunc_int64_at_impl_RootsOf_1.f slices_IndexFunc_int64_at_impl_RootsOf_1.f
    refine contains_ev (d := 0) (l := slotsR s) (by omega) (g := fun k i => slices_IndexFunc_int64_at_impl_RootsOf_1.p6 k (slotsR s) (c.1, (c.2.1, (c.2.2.1, c.2.2.2))) ((slotsR s).length : Int) i) (t := fun _ x => impl_RootsOf_1.f x (c.1, (c.2.1, (c.2.2.1, c.2.2.2)))) (f := fun x => !dataRefB c x) (fun k i => by rw [slices_IndexFunc_int64_at_impl_RootsOf_1.p6]; rfl) (fun x hx => ?_)
    unfold impl_RootsOf_1.f
    exact Ev.bindo (impl_isDataRef_f c hc x) (Ev.eq rfl)
  refine Ev.bind hany ?_
  by_cases h2 : (slotsR s).all (dataRefB c) = true
  · rw [if_pos h2]
    refine Ev.neg ?_ (Ev.eq rfl)
    rw [List.all_eq_not_any_not] at h2
    simpa using h2
  · rw [if_neg h2]
    refine Ev.pos ?_ (Ev.eq rfl)
    rw [List.all_eq_not_any_not] at h2
    simpa using h2
theorem spec_RootsOf_ev (c : Cfg) (s : ByteArray) (hl : c.2.2.2.length ≤ 1048576) (hs : ∀ x ∈ c.2.2.2, x.size ≤ 1048576) : Ev (fun k => spec_RootsOf.f k c.1 c.2.1 c.2.2.1 c.2.2.2 s) (rootsR c s) := by
  unfold spec_RootsOf.f rootsR
  refine Ev.bind (spec_l5Image_ev c s hl hs) ?_
  by_cases h : isImageB c s = true
  rotate_left
  · rw [if_neg h]
    exact Ev.neg h (Ev.eq rfl)
  rw [if_pos h]
  obtain ⟨hc, hz⟩ := isImageB_facts h
  have hf := configOk_facts hc
  have hsl : (slotsR s).length = 8 := by simp [slotsR]
  have e := spec_l10Slots_ev s (by omega) (by omega)
  refine Ev.pos h (Ev.bind e (Ev.bind (spec_l10Refs_ev c hc _ (by omega)) ?_))
  by_cases h2 : (slotsR s).all (dataRefB c) = true
  · rw [if_pos h2]
    exact Ev.pos h2 (Ev.bind e (Ev.eq rfl))
  · rw [if_neg h2]
    exact Ev.neg h2 (Ev.eq rfl)
theorem rootsR_length (c : Cfg) (s : ByteArray) : (rootsR c s).1.length ≤ 8 := by
  unfold rootsR
  split
  · split
    · simp [slotsR]
    · simp
  · simp
end Go.Proofs.YtbpeiilildchlaaGreatDoor.Abs.Pu
namespace Go.Proofs.YtbpeiilildchlaaGreatDoor.Abs.Pu
open Go Go.RowKit
set_option linter.unusedVariables false
set_option linter.unusedSectionVars false
set_option linter.unusedSimpArgs false
def nodeR (c : Cfg) (L : List Int) (o : Int × List Int) : Int × List Int := (o.1, tolV (kdO c o) L 0 o.2)
def durW (c : Cfg) (r : List Int) : Option (List Int × List (Int × List Int) × ByteArray) → List Int × List (Int × List Int) × Bool
  | some (L, O, M) => (r.map (toldR L), O.map (nodeR c L), true)
  | none => ([], [], false)
def durR (c : Cfg) (s : ByteArray) : List Int × List (Int × List Int) × Bool :=
  if (rootsR c s).2 = true then durW c (rootsR c s).1 (walkR c s (rootsR c s).1) else ([], [], false)
/-- An object that a walk found. -/
structure ObjP (c : Cfg) (o : Int × List Int) : Prop where
  t0 : 0 ≤ o.1
  t1 : o.1 < c.2.2.2.length
  sz : o.2.length = (kdO c o).size
  ln : o.2.length ≤ 23
  rf : refsB (dataRefB c) (kdO c o) 0 o.2 = true
/-- What a walk comes to. -/
structure WalkP (c : Cfg) (L : List Int) (O : List (Int × List Int)) : Prop where
  nd : L.Nodup
  rg : ∀ x ∈ L, 5 ≤ x ∧ x ≤ 127
  le : L.length ≤ 128
  eq : O.length = L.length
  ob : ∀ o ∈ O, ObjP c o
theorem walkP {c : Cfg} {image : ByteArray} {refs L : List Int} {O : List (Int × List Int)} {M : ByteArray} (h : walkR c image refs = some (L, O, M)) : WalkP c L O := by
  obtain ⟨hc, hz, w⟩ := walkR_end h
  have hf := configOk_facts hc
  refine ⟨w.li.nd, fun x hx => ?_, w.li.len hc, w.ol, fun o ho => ?_⟩
  · have := isDataB_facts (w.li.ok x hx); omega
  · obtain ⟨j, hj, e⟩ := List.getElem_of_mem ho
    have ho := w.obj j hj
    rw [e] at ho
    have hy := oldR_yes (line := rd L (j : Int)) hc hz (by rw [ho])
    rw [ho] at hy
    obtain ⟨y1, y2, y3, y4⟩ := hy
    obtain ⟨o1, o2, o3, o4, o5, o6, o7⟩ := objOk8_facts y2
    exact ⟨o2, o3, o5, o6, y4⟩
theorem rootsR_yes {c : Cfg} {s : ByteArray} (h : (rootsR c s).2 = true) : isImageB c s = true ∧ (rootsR c s).1.all (dataRefB c) = true := by
  unfold rootsR at h ⊢
  split
  · rename_i k
    split
    · rename_i k2
      exact ⟨k, k2⟩
    · rename_i k2
      rw [if_pos k, if_neg k2] at h
      cases h
  · rename_i k
    rw [if_neg k] at h
    cases h
theorem dataRef_all {c : Cfg} {v : Int} (h : dataRefB c v = true) : 0 ≤ v ∧ v ≤ 254 ∧ v % 2 = 0 := by
  by_cases h0 : v = 0
  · omega
  · have := (dataRef_facts h h0).2; omega
theorem toldR_snoc (L : List Int) (x v : Int) (hx : x ∉ L) (x0 : 1 ≤ x) (h0 : 0 ≤ v) (h1 : v % 2 = 0) : toldR (L ++ [x]) v = if v = 2 * x then (L.length : Int) + 1 else toldR L v := by
  unfold toldR
  by_cases e : v = 2 * x
  · have e2 : v / 2 = x := by omega
    rw [if_pos e, if_neg (by omega), e2, if_pos (by simp), List.idxOf_append, if_neg hx, List.idxOf_cons_self]
    omega
  · rw [if_neg e]
    by_cases v0 : v = 0
    · rw [if_pos v0, if_pos v0]
    · have hne : v / 2 ≠ x := fun h => e (by omega)
      rw [if_neg v0, if_neg v0]
      by_cases m : v / 2 ∈ L
      · rw [if_pos m, if_pos (List.mem_append_left _ m), List.idxOf_append, if_pos m]
      · rw [if_neg m, if_neg (fun h => (List.mem_append.1 h).elim m (fun h => hne (List.mem_singleton.1 h)))]
theorem durW_small {c : Cfg} {image : ByteArray} {refs : List Int} (r : List Int) (hr : r.length ≤ 8) : (durW c r (walkR c image refs)).1.length ≤ 1000 ∧ (durW c r (walkR c image refs)).2.1.length ≤ 1000 ∧ ∀ x ∈ (durW c r (walkR c image refs)).2.1, x.2.length ≤ 1000 := by
  cases hw : walkR c image refs with
  | none => exact ⟨Nat.zero_le _, Nat.zero_le _, fun x hx => by cases hx⟩
  | some w =>
    obtain ⟨L, O, M⟩ := w
    have wp := walkP hw
    have h1 := wp.le
    have h2 := wp.eq
    refine ⟨?_, ?_, fun x hx => ?_⟩
    · show (r.map (toldR L)).length ≤ 1000
      rw [List.length_map]; omega
    · show (O.map (nodeR c L)).length ≤ 1000
      rw [List.length_map]; omega
    · obtain ⟨o, ho, rfl⟩ := List.mem_map.1 hx
      have := (wp.ob o ho).ln
      show (tolV (kdO c o) L 0 o.2).length ≤ 1000
      rw [tolV_length]; omega
theorem durR_small (c : Cfg) (s : ByteArray) : (durR c s).1.length ≤ 1000 ∧ (durR c s).2.1.length ≤ 1000 ∧ ∀ x ∈ (durR c s).2.1, x.2.length ≤ 1000 := by
  unfold durR
  split
  · exact durW_small _ (rootsR_length c s)
  · exact ⟨Nat.zero_le _, Nat.zero_le _, fun x hx => by cases hx⟩
end Go.Proofs.YtbpeiilildchlaaGreatDoor.Abs.Pu
namespace Go.Proofs.YtbpeiilildchlaaGreatDoor.Abs.Pu
open Go Go.RowKit
set_option linter.unusedVariables false
set_option linter.unusedSectionVars false
set_option linter.unusedSimpArgs false
set_option maxHeartbeats 1000000 in
theorem spec_DurableOf_ev (c : Cfg) (s : ByteArray) (hl : c.2.2.2.length ≤ 1048576) (hs : ∀ x ∈ c.2.2.2, x.size ≤ 1048576) : Ev (fun k => spec_DurableOf.f k c.1 c.2.1 c.2.2.1 c.2.2.2 s) (durR c s) := by
  unfold spec_DurableOf.f durR
  refine Ev.bind (spec_RootsOf_ev c s hl hs) (Ev.cases (fun h => ?_) (fun h => by rw [if_neg h]; exact Ev.eq rfl))
  rw [if_pos h]
  obtain ⟨hi, hd⟩ := rootsR_yes h
  have hrl := rootsR_length c s
  generalize (rootsR c s).1 = r at *
  refine Ev.bind (spec_l10Find_ev c s r hl hs (by omega) hi hd) ?_
  cases hw : walkR c s r with
  | none => exact Ev.neg (by simp [finS]) (Ev.eq rfl)
  | some w =>
    obtain ⟨L, O, M⟩ := w
    have wp := walkP hw
    have hL := wp.le
    have hO := wp.eq
    refine Ev.pos rfl ?_
    show Ev (fun k => spec_DurableOf.p28 k c.1 c.2.1 c.2.2.1 c.2.2.2 r L O ([] : List Int) 0) (r.map (toldR L), O.map (nodeR c L), true)
    -- the nodes
    have nodes : ∀ i, i ≤ O.length → Ev (fun k => spec_DurableOf.p43 k c.1 c.2.1 c.2.2.1 c.2.2.2 L O (r.map (toldR L)) ((O.take i).map (nodeR c L)) (i : Int)) (r.map (toldR L), O.map (nodeR c L), true) := by
      refine down ?_ ?_
      · refine Ev.step (fun k => by rw [spec_DurableOf.p43]) ?_
        rw [List.take_length]
        exact Ev.neg (by omega) (Ev.eq rfl)
      · intro i hi ih
        refine Ev.step (fun k => by rw [spec_DurableOf.p43]) ?_
        have op := wp.ob _ (List.getElem_mem hi)
        have hrd : rdOf (0, []) O (i : Int) = O[i] := rdg hi
        rw [take_snoc2 O i hi, List.map_append] at ih
        have hlen : ((O.take i).map (nodeR c L)).length ≤ 128 := by rw [List.length_map, List.length_take]; omega
        generalize (O.take i).map (nodeR c L) = N at *
        generalize O[i] = o at *
        rw [hrd]
        refine Ev.pos (by omega) (Ev.pos (by omega) (Ev.pos (by omega) ?_))
        obtain ⟨t0, t1, sz, ln, rf⟩ := op
        have inner : ∀ (l : List Int) (q : Nat) (a : List Int), l = o.2.drop q → q ≤ o.2.length → a.length = q → refsB (dataRefB c) (kdO c o) q l = true → a ++ tolV (kdO c o) L q l = tolV (kdO c o) L 0 o.2 → Ev (fun k => spec_DurableOf.p58 k c.1 c.2.1 c.2.2.1 c.2.2.2 L O (r.map (toldR L)) N (i : Int) o.1 a (q : Int)) (r.map (toldR L), O.map (nodeR c L), true) := by
          intro l
          induction l with
          | nil =>
            intro q a hl2 hq ha hr2 hv
            have hqe : q = o.2.length := by
              have := congrArg List.length hl2
              rw [List.length_nil, List.length_drop] at this
              omega
            refine Ev.step (fun k => by rw [spec_DurableOf.p58]) ?_
            rw [hrd, set_snoc, w64s (i := i) (by omega)]
            rw [tolV, List.append_nil] at hv
            rw [hv]
            exact Ev.pos (by omega) (Ev.pos (by omega) (Ev.neg (by omega) (Ev.pos (by omega) ih)))
          | cons v l ihl =>
            intro q a hl2 hq ha hr2 hv
            have hq2 : q < o.2.length := by
              have := congrArg List.length hl2
              rw [List.length_cons, List.length_drop] at this
              omega
            rw [List.drop_eq_getElem_cons hq2] at hl2
            injection hl2 with hv1 hl1
            rw [refsB] at hr2
            rw [tolV, ← List.singleton_append, ← List.append_assoc] at hv
            refine Ev.step (fun k => by rw [spec_DurableOf.p58]) ?_
            rw [hrd, rd_get hq2, ← hv1, w64s (i := q) (by omega)]
            have hsz : ((rdOf ByteArray.empty c.2.2.2 o.1).size : Int) = o.2.length := by rw [sz]; rfl
            refine Ev.pos (by omega) (Ev.pos (by omega) (Ev.pos (by omega) (Ev.pos (by omega) (Ev.pos (by omega) (Ev.pos (by omega) (Ev.pos (by omega) (Ev.pos t0 (Ev.pos t1 (Ev.pos (by omega) (Ev.pos (by omega) ?_))))))))))
            by_cases k4 : bt (kdO c o) (q : Int) = 114
            · rw [if_pos k4] at hv hr2
              rw [Bool.and_eq_true] at hr2
              have hv3 := dataRef_all hr2.1
              exact Ev.pos k4 (Ev.bind (told_is L v (by omega) (by omega) (by omega)) (Ev.pos (by omega) (ihl (q + 1) _ hl1 (by omega) (by rw [List.length_append, List.length_singleton]; omega) hr2.2 hv)))
            · rw [if_neg k4] at hv hr2
              exact Ev.neg k4 (Ev.pos (by omega) (ihl (q + 1) _ hl1 (by omega) (by rw [List.length_append, List.length_singleton]; omega) hr2 hv))
        exact inner o.2 0 [] rfl (Nat.zero_le _) rfl rf rfl
    -- the roots
    have roots : ∀ i, i ≤ r.length → Ev (fun k => spec_DurableOf.p28 k c.1 c.2.1 c.2.2.1 c.2.2.2 r L O ((r.take i).map (toldR L)) (i : Int)) (r.map (toldR L), O.map (nodeR c L), true) := by
      refine down ?_ ?_
      · refine Ev.step (fun k => by rw [spec_DurableOf.p28]) ?_
        rw [List.take_length]
        exact Ev.neg (by omega) (by simpa using nodes 0 (Nat.zero_le _))
      · intro i hi ih
        refine Ev.step (fun k => by rw [spec_DurableOf.p28]) ?_
        have hv3 := dataRef_all (List.all_eq_true.1 hd _ (List.getElem_mem hi))
        rw [take_snoc2 r i hi, List.map_append] at ih
        have hlen : ((r.take i).map (toldR L)).length ≤ 8 := by rw [List.length_map, List.length_take]; omega
        rw [rd_get hi, w64s (i := i) (by omega)]
        exact Ev.pos (by omega) (Ev.pos (by omega) (Ev.pos (by omega) (Ev.bind (told_is L _ (by omega) (by omega) (by omega)) (Ev.pos (by omega) ih))))
    exact roots 0 (Nat.zero_le _)
end Go.Proofs.YtbpeiilildchlaaGreatDoor.Abs.Pu
namespace Go.Proofs.YtbpeiilildchlaaGreatDoor.Abs.Pu
open Go Go.RowKit
set_option linter.unusedVariables false
set_option linter.unusedSectionVars false
set_option linter.unusedSimpArgs false
theorem walk_facts0 {c : Cfg} {image : ByteArray} (hi : isImageB c image = true) : configOk c = true ∧ (image.size : Int) = 64 * c.1 ∧ typesOk c.2.2.2 = true ∧ c.1 ≤ 128 := by
  obtain ⟨hc, hz⟩ := isImageB_facts hi
  have hf := configOk_facts hc
  exact ⟨hc, hz, hf.2.2.2.2.2.2.2, hf.2.1⟩
theorem half_f {v : Int} (h : 0 ≤ v) (h2 : v ≤ 1000000) : wrap64 (Int.tdiv v 2) = v / 2 := by
  rw [Int.tdiv_eq_ediv_of_nonneg h, w64 (by omega) (by omega)]
theorem dataRef_range {c : Cfg} {v : Int} (h : dataRefB c v = true) : 0 ≤ v ∧ v ≤ 254 ∧ v % 2 = 0 := by
  by_cases h0 : v = 0
  · omega
  · have := (dataRef_facts h h0).2; omega
/-! ### the program -/
/-- The list of the objects found, those not yet read with none. -/
def outF (ls : List Int) (os : List (Int × List Int)) : List (Int × Int × List Int) := ls.mapIdx fun j l => (l, os.getD j (0, []))
theorem outF_length (ls : List Int) (os : List (Int × List Int)) : (outF ls os).length = ls.length := by simp [outF]
theorem outF_get (ls : List Int) (os : List (Int × List Int)) (j : Nat) (h : j < (outF ls os).length) : (outF ls os)[j] = (ls[j]'(by rw [outF_length] at h; exact h), os.getD j (0, [])) := by simp [outF]
theorem outF_snoc (ls : List Int) (os : List (Int × List Int)) (l : Int) (h : os.length ≤ ls.length) : outF (ls ++ [l]) os = outF ls os ++ [(l, (0, []))] := by
  unfold outF
  rw [List.mapIdx_append]
  simp only [List.mapIdx_cons, List.mapIdx_nil, Nat.zero_add]
  rw [List.getD_eq_getElem?_getD, List.getElem?_eq_none (by omega)]
  rfl
theorem outF_set (ls : List Int) (os : List (Int × List Int)) (o : Int × List Int) (h : os.length < ls.length) : (outF ls os).set os.length (ls[os.length], o) = outF ls (os ++ [o]) := by
  refine List.ext_getElem (by rw [List.length_set, outF_length, outF_length]) (fun j h1 h2 => ?_)
  rw [List.getElem_set]
  split
  · rename_i e
    subst e
    rw [outF_get]
    simp
  · rename_i e
    rw [outF_get, outF_get]
    congr 1
    rw [List.getD_eq_getElem?_getD, List.getD_eq_getElem?_getD]
    by_cases c : j < os.length
    · rw [List.getElem?_append_left c]
    · rw [List.getElem?_eq_none (by omega), List.getElem?_eq_none (by rw [List.length_append, List.length_singleton]; omega)]
/-- What is seen, by reference: nothing, and those whose line is found. -/
def SeenIs (f : Int → Option Bool) (ls : List Int) : Prop := ∀ v : Int, 0 ≤ v → v % 2 = 0 → ((f v).getD false = true ↔ v = 0 ∨ v / 2 ∈ ls)
theorem see2_f {c : Cfg} {f : Int → Option Bool} {ls : List Int} {os : List (Int × List Int)} (hf : SeenIs f ls) (hl : ls.length ≤ 128) (ho : os.length ≤ ls.length) {v : Int} (hv : dataRefB c v = true) : ∃ f', impl_walked_2.f v f (outF ls os) = some (f', outF (seeL ls v) os) ∧ SeenIs f' (seeL ls v) ∧ os.length ≤ (seeL ls v).length := by
  obtain ⟨h0, h1, h2⟩ := dataRef_range hv
  have hs := hf v h0 h2
  unfold impl_walked_2.f seeL
  by_cases k : (f v).getD false = true
  · rw [if_pos k, if_neg (fun h => (hs.1 k).elim h.1 h.2)]
    exact ⟨f, rfl, hf, ho⟩
  · have k1 : v ≠ 0 ∧ v / 2 ∉ ls := ⟨fun h => k (hs.2 (Or.inl h)), fun h => k (hs.2 (Or.inr h))⟩
    rw [if_neg k, if_pos (by rw [outF_length]; omega), if_pos k1, half_f h0 (by omega), outF_snoc ls os _ ho]
    refine ⟨_, rfl, fun x hx0 hx2 => ?_, by rw [List.length_append]; omega⟩
    unfold mput
    by_cases e : x = v
    · subst e
      rw [if_pos rfl]
      simp
    · rw [if_neg e, hf x hx0 hx2, List.mem_append, List.mem_singleton]
      refine or_congr_right ⟨fun h => Or.inl h, fun h => h.elim id (fun h => ?_)⟩
      exact absurd (by omega) e
theorem see2_q {c : Cfg} {f : Int → Option Bool} {ls : List Int} {os : List (Int × List Int)} (hf : SeenIs f ls) (hl : ls.length ≤ 128) (ho : os.length ≤ ls.length) {v : Int} (hv : dataRefB c v = true) (q : List Int) (j : Nat) : ∃ f', impl_walked_2_q.f v f q j (outF ls os) = some (f', j, outF (seeL ls v) os, q) ∧ SeenIs f' (seeL ls v) ∧ os.length ≤ (seeL ls v).length := by
  obtain ⟨f', e, h1, h2⟩ := see2_f hf hl ho hv
  refine ⟨f', ?_, h1, h2⟩
  unfold impl_walked_2.f at e
  unfold impl_walked_2_q.f
  split
  · rename_i k
    rw [if_pos k] at e
    injection e with e
    injection e with e1 e2
    rw [e1, e2]
  · rename_i k
    rw [if_neg k] at e
    split
    · rename_i k2
      rw [if_pos k2] at e
      injection e with e
      injection e with e1 e2
      rw [e1, e2]
    · rename_i k2
      rw [if_neg k2] at e
      cases e
theorem outF_back (ls : List Int) (os : List (Int × List Int)) (o : Int × List Int) (i : Nat) (hi : os.length = i) (h : i < ls.length) : (outF ls (os ++ [o])).set i (((outF ls (os ++ [o])).getD i (0, (0, []))).1, (((outF ls (os ++ [o])).getD i (0, (0, []))).2.1, o.2)) = outF ls (os ++ [o]) := by
  have hl : i < (outF ls (os ++ [o])).length := by rw [outF_length]; exact h
  have e : (outF ls (os ++ [o])).getD i (0, (0, [])) = (ls[i], o) := by
    rw [List.getD_eq_getElem?_getD, List.getElem?_eq_getElem hl, outF_get]
    subst hi
    simp
  rw [e]
  have e2 : (outF ls (os ++ [o]))[i] = (ls[i], (o.1, o.2)) := by
    rw [outF_get]
    subst hi
    simp
  rw [← e2]
  exact List.set_getElem_self _
def fin3 : Option (List Int × List (Int × List Int) × ByteArray) → List (Int × Int × List Int) × ByteArray × Bool
  | some (L, O, M) => (outF L O, M, true)
  | none => ([], ⟨#[]⟩, false)
set_option maxHeartbeats 1000000 in
theorem impl_walked_ev (c : Cfg) (image : ByteArray) (refs : List Int) (hs : ∀ x ∈ c.2.2.2, x.size ≤ 1048576) (hr : refs.length ≤ 1099511627776) : Ev (fun k => impl_walked.f k c.1 c.2.1 c.2.2.1 c.2.2.2 image refs) (fin3 (walkR c image refs)) := by
  unfold impl_walked.f walkR
  have bad : ∀ b, b = true → Ev (fun k => impl_walked.p5 k image refs c.1 c.2.1 c.2.2.1 c.2.2.2 b) (fin3 none) := by
    intro b hb
    refine Ev.step (fun k => by rw [impl_walked.p5]) ?_
    rw [hb]
    exact Ev.pos rfl (Ev.eq rfl)
  refine Ev.bind (impl_isImage_ev c image hs) (Ev.cases (fun hi => ?_) (fun hi => by rw [if_neg (fun h => hi h.1)]; exact bad _ rfl))
  obtain ⟨hc, hz, ht, hc1⟩ := walk_facts0 hi
  have hany : Ev (fun k => slices_ContainsFunc_int64_at_impl_walked_1.f k refs (c.1, (c.2.1, (c.2.2.1, c.2.2.2)))) (refs.any fun x => !dataRefB c x) := by
    unfold slices_ContainsFunc_int64_at_impl_walked_1.f slices_IndexFunc_int64_at_impl_walked_1.f
    refine contains_ev (d := 0) (l := refs) hr (g := fun k i => slices_IndexFunc_int64_at_impl_walked_1.p6 k refs (c.1, (c.2.1, (c.2.2.1, c.2.2.2))) (refs.length : Int) i) (t := fun _ x => impl_walked_1.f x (c.1, (c.2.1, (c.2.2.1, c.2.2.2)))) (f := fun x => !dataRefB c x) (fun k i => by rw [slices_IndexFunc_int64_at_impl_walked_1.p6]; rfl) (fun x hx => ?_)
    unfold impl_walked_1.f
    exact Ev.bindo (impl_isDataRef_f c hc x) (Ev.eq rfl)
  refine Ev.bind hany ?_
  by_cases h2 : refs.all (dataRefB c) = true
  rotate_left
  · rw [if_neg (fun h => h2 h.2)]
    refine bad _ ?_
    rw [List.all_eq_not_any_not] at h2
    simpa using h2
  have hall := List.all_eq_true.1 h2
  rw [if_pos ⟨hi, h2⟩]
  have hb : (refs.any fun x => !dataRefB c x) = false := by
    rw [List.all_eq_not_any_not] at h2
    simpa using h2
  rw [hb]
  refine Ev.step (fun k => by rw [impl_walked.p5]) ?_
  refine Ev.neg (by simp) ?_
  -- the walk
  have walk : ∀ (d i : Nat) (ls : List Int) (os : List (Int × List Int)) (m : ByteArray) (f : Int → Option Bool), 129 ≤ i + d → WSt c image i ls os m → SeenIs f ls → Ev (fun k => impl_walked.p39 k image c.1 c.2.1 c.2.2.1 c.2.2.2 (outF ls os) f m (i : Int)) (fin3 (walkF c image d i ls os m)) := by
    intro d
    induction d with
    | zero =>
      intro i ls os m f hd h hf
      have := h.li.len hc
      have := h.il
      omega
    | succ d ih =>
      intro i ls os m f hd h hf
      have hlen := h.li.len hc
      have hol := h.ol
      have hofl := outF_length ls os
      refine Ev.step (fun k => by rw [impl_walked.p39]) ?_
      rw [walkF]
      by_cases k1 : i < ls.length
      rotate_left
      · rw [if_neg k1]
        exact Ev.neg (by omega) (Ev.eq rfl)
      rw [if_pos k1]
      have hg : rdOf (0, (0, [])) (outF ls os) (i : Int) = (rd ls (i : Int), (0, [])) := by
        rw [rdg (by omega), outF_get, rd_get k1, List.getD_eq_getElem?_getD, List.getElem?_eq_none (by omega)]
        rfl
      have hst := h.step hc hz k1
      have hme : rd ls (i : Int) ∈ ls := by rw [rd_get k1]; exact List.getElem_mem k1
      have hdat := isDataB_facts (h.li.ok _ hme)
      have hset := outF_set ls os (oldR c image (rd ls (i : Int))).1 (by omega)
      have hrl : (ls[os.length]'(by omega)) = rd ls (i : Int) := by rw [rd_get k1]; simp only [hol]
      rw [hrl, hol] at hset
      have hO := impl_oldObject_ev c image (rd ls (i : Int)) hc hz hs
      rw [hg]
      simp only []
      generalize hx : rd ls (i : Int) = x at *
      refine Ev.pos (by omega) (Ev.pos (by omega) (Ev.pos (by omega) (Ev.bind hO ?_)))
      by_cases k2 : (oldR c image x).2 = true
      rotate_left
      · rw [if_neg k2]
        exact Ev.neg k2 (Ev.eq rfl)
      rw [if_pos k2]
      obtain ⟨y1, y2, y3, y4⟩ := oldR_yes hc hz k2
      have hst := hst k2
      obtain ⟨o1, o2, o3, o4, o5, o6, o7⟩ := objOk8_facts y2
      have hrun : runL c.2.2.2 (oldR c image x).1.1 = runO c (oldR c image x).1 := rfl
      have hkd : kdO c (oldR c image x).1 = rdOf ByteArray.empty c.2.2.2 (oldR c image x).1.1 := rfl
      have hout : out3 (oldR c image x) = ((oldR c image x).1.1, (oldR c image x).1.2, (oldR c image x).2) := rfl
      have hrf := impl_runOf_f ht (oldR c image x).1.1
      rw [hout]
      refine Ev.pos k2 ?_
      simp only []
      generalize (oldR c image x).1 = o at *
      rw [Int.toNat_natCast]
      rw [show ((x, (o.1, o.2)) : Int × Int × List Int) = (x, o) from rfl, hset]
      have hofl2 := outF_length ls (os ++ [o])
      have hg2 : (rdOf (0, (0, [])) (outF ls (os ++ [o])) (i : Int)).1 = x := by
        rw [rdg (by omega), outF_get]
        simp only []
        rw [← hx, rd_get k1]
      rw [hg2]
      refine Ev.pos (by omega) (Ev.pos (by omega) (Ev.pos (by omega) (Ev.pos (by omega) (Ev.pos o2 (Ev.pos o3 (Ev.bindo hrf (Ev.bind (impl_TakeRun_ev m x _) ?_)))))))
      rw [hrun]
      by_cases k3 : (runResult m true x (runO c o)).2 = true
      rotate_left
      · rw [if_neg k3]
        exact Ev.neg k3 (Ev.eq rfl)
      rw [if_pos k3]
      refine Ev.pos k3 ?_
      have hst := hst k3
      -- the references of the object
      have lp : ∀ (l : List Int) (q : Nat) (ls' : List Int) (f' : Int → Option Bool), q ≤ o.2.length → l = o.2.drop q → LInv c ls' → (os ++ [o]).length ≤ ls'.length → SeenIs f' ls' → refsB (dataRefB c) (kdO c o) q l = true → vlsS (kdO c o) q l ls' = vlsS (kdO c o) 0 o.2 ls →
          Ev (fun k => impl_walked.p73 k image c.1 c.2.1 c.2.2.1 c.2.2.2 o.2 i (outF ls' (os ++ [o])) f' (runResult m true x (runO c o)).1 (i : Int) o.1 (o.2.length : Int) (q : Int)) (fin3 (walkF c image d (i + 1) (vlsS (kdO c o) 0 o.2 ls) (os ++ [o]) (runResult m true x (runO c o)).1)) := by
        intro l
        induction l with
        | nil =>
          intro q ls' f' hq hl hli hle hf' hrf' hv
          have hqe : q = o.2.length := by
            have := congrArg List.length hl
            rw [List.length_nil, List.length_drop] at this
            omega
          refine Ev.step (fun k => by rw [impl_walked.p73]) ?_
          rw [w64s (i := i) (by omega), outF_back ls' os o i hol (by rw [List.length_append, List.length_singleton] at hle; omega)]
          rw [vlsS] at hv
          rw [← hv] at hst ⊢
          exact Ev.neg (by omega) (ih (i + 1) ls' (os ++ [o]) _ f' (by omega) hst hf')
        | cons v l ihl =>
          intro q ls' f' hq hl hli hle hf' hrf' hv
          have hq2 : q < o.2.length := by
            have := congrArg List.length hl
            rw [List.length_cons, List.length_drop] at this
            omega
          rw [List.drop_eq_getElem_cons hq2] at hl
          injection hl with hv1 hl1
          refine Ev.step (fun k => by rw [impl_walked.p73]) ?_
          rw [rd_get hq2, ← hv1, w64s (i := q) (by omega)]
          rw [vlsS] at hv
          rw [refsB] at hrf'
          refine Ev.pos (by omega) (Ev.pos (by omega) (Ev.pos (by omega) (Ev.pos o2 (Ev.pos o3 (Ev.pos (by omega) (Ev.pos (by omega) ?_))))))
          by_cases k4 : bt (kdO c o) (q : Int) = 114
          · rw [if_pos k4] at hv hrf'
            rw [Bool.and_eq_true] at hrf'
            obtain ⟨f2, e2, hf2, hle2⟩ := see2_q hf' (hli.len hc) hle hrf'.1 o.2 i
            exact Ev.pos k4 (Ev.bindo e2 (ihl (q + 1) _ f2 (by omega) hl1 (hli.see hrf'.1) hle2 hf2 hrf'.2 hv))
          · rw [if_neg k4] at hv hrf'
            exact Ev.neg k4 (ihl (q + 1) ls' f' (by omega) hl1 hli hle hf' hrf' hv)
      exact lp o.2 0 ls f (by omega) rfl h.li (by rw [List.length_append, List.length_singleton]; omega) hf y4 rfl
  -- the references given
  have lp : ∀ (l : List Int) (q : Nat) (ls : List Int) (f : Int → Option Bool), q ≤ refs.length → l = refs.drop q → LInv c ls → SeenIs f ls → (∀ x ∈ l, dataRefB c x = true) → l.foldl seeL ls = refs.foldl seeL [] →
      Ev (fun k => impl_walked.p20 k image c.1 c.2.1 c.2.2.1 c.2.2.2 (outF ls []) f refs (refs.length : Int) (q : Int)) (fin3 (walkF c image 129 0 (refs.foldl seeL []) [] (zerosB 64))) := by
    intro l
    induction l with
    | nil =>
      intro q ls f hq hl hli hf hd hv
      have hqe : q = refs.length := by
        have := congrArg List.length hl
        rw [List.length_nil, List.length_drop] at this
        omega
      refine Ev.step (fun k => by rw [impl_walked.p20]) ?_
      rw [List.foldl_nil] at hv
      have hst := WSt.start (c := c) (image := image) hall
      rw [← hv] at hst ⊢
      exact Ev.neg (by omega) (Ev.bindo (impl_zeros_f 64 (by omega)) (walk 129 0 ls [] _ f (by omega) hst hf))
    | cons v l ihl =>
      intro q ls f hq hl hli hf hd hv
      have hq2 : q < refs.length := by
        have := congrArg List.length hl
        rw [List.length_cons, List.length_drop] at this
        omega
      rw [List.drop_eq_getElem_cons hq2] at hl
      injection hl with hv1 hl1
      have hdv := hd v (by simp)
      obtain ⟨f2, e2, hf2, _⟩ := see2_f hf (hli.len hc) (os := []) (Nat.zero_le _) hdv
      refine Ev.step (fun k => by rw [impl_walked.p20]) ?_
      rw [rd_get hq2, ← hv1, w64s (i := q) (by omega)]
      exact Ev.pos (by omega) (Ev.pos (by omega) (Ev.pos (by omega) (Ev.bindo e2 (ihl (q + 1) _ f2 (by omega) hl1 (hli.see hdv) hf2 (fun x hx => hd x (List.mem_cons_of_mem _ hx)) hv))))
  refine lp refs 0 [] _ (by omega) rfl ⟨by simp, fun x hx => by cases hx⟩ ?_ hall rfl
  intro v h0 h2
  unfold mput
  by_cases e : v = 0
  · rw [if_pos e]; simp [e]
  · rw [if_neg e]; simp [e]
end Go.Proofs.YtbpeiilildchlaaGreatDoor.Abs.Pu
