/- The Lean functions that the machine tells of the program. (Merged out of this claim's own texts.) -/
import Derived.Test.YtlljkankongifaaDoorBFnExactPlanned2
import Derived.Shelf.Strings.SlTrimAscii
import Derived.Lib.Repeat
import Derived.Test.YtlljkankongifaaDoorProg
import Derived.Shelf.Strings.Builder1
import Derived.Shelf.Strings.Builder2
import Derived.Shelf.Strings.Trim
import Derived.Shelf.Small.Utf8
import Derived.Shelf.Small.Strs
import Derived.Shelf.Strings.BuilderF
import Derived.Shelf.Strings.BuilderK
import Derived.Shelf.Strings.Builder2Cap
import Derived.Shelf.Strings.Search1
import Derived.Shelf.Strings.Prefix
import Derived.Shelf.Unicode.Decode
import Derived.Shelf.Strings.Runes
import Derived.Shelf.Strings.AsciiSet
import Derived.Shelf.Bits.Mul64
import Derived.Shelf.Strings.Repeat
import Derived.Shelf.Unicode.DecodeSlow
import Derived.Shelf.Unicode.DecodeAny
import Derived.Shelf.Unicode.DecodeLast
import Derived.Shelf.Strings.BuilderCap
import Derived.Ground.SlgfProg
import Derived.Shelf.SlicesE.IndexFunc
namespace Go.Proofs.YtlljkankongifaaDoor.Abs
open Go Go.RowKit
set_option linter.unusedVariables false
set_option linter.unusedSectionVars false
set_option linter.unusedSimpArgs false
noncomputable section
def laws_szStringS.p16 : Nat → List ByteArray → Int → Int → Option (Int)
 | 0, _, _, _ => none
 | k + 1, x0, x1, x5 => (if x5 < (x0.length : Int) then (if 0 ≤ x5 then (if x5 < (x0.length : Int) then (if (wrap64 (x1 - ((rdOf ByteArray.empty x0 x5).size : Int))) < 0 then (some (-1)) else (laws_szStringS.p16 k x0 (wrap64 (x1 - ((rdOf ByteArray.empty x0 x5).size : Int))) (wrap64 (x5 + 1)))) else none) else none) else (some x1))
def laws_szStringS.f (k : Nat) (a0 : List ByteArray) (a1 : Int) : Option (Int) := (if (wrap64 (a1 - (a0.length : Int))) < 0 then (some (-1)) else (laws_szStringS.p16 k a0 (wrap64 (a1 - (a0.length : Int))) 0))
def laws_szConfig.f (k : Nat) (a0_0 : Int) (a0_1 : Int) (a0_2 : Int) (a0_3 : List ByteArray) (a1 : Int) : Option (Int) := ((laws_szStringS.f k a0_3 a1).bind fun t1 => (if t1 < 0 then (some (-1)) else (some t1)))
def laws_toStringS.p8 : Nat → List ByteArray → List ByteArray → Int → Option (List ByteArray)
 | 0, _, _, _ => none
 | k + 1, x0, x3, x4 => (if x4 < (x0.length : Int) then (if 0 ≤ x4 then (if x4 < (x0.length : Int) then (if 0 ≤ x4 then (if x4 < (x3.length : Int) then (laws_toStringS.p8 k x0 (x3.set x4.toNat (rdOf ByteArray.empty x0 x4)) (wrap64 (x4 + 1))) else none) else none) else none) else none) else (some x3))
def laws_toStringS.f (k : Nat) (a0 : List ByteArray) : Option (List ByteArray) := (if 0 ≤ (a0.length : Int) then (if (a0.length : Int).toNat ≤ 17592186044416 then (laws_toStringS.p8 k a0 (List.replicate (a0.length : Int).toNat (⟨#[]⟩ : ByteArray)) 0) else none) else none)
def laws_toConfig.f (k : Nat) (a0_0 : Int) (a0_1 : Int) (a0_2 : Int) (a0_3 : List ByteArray) : Option (Int × Int × Int × List ByteArray) := ((laws_toStringS.f k a0_3).bind fun t1 => (some (a0_0, a0_1, a0_2, t1)))
def laws_toInt64S.p8 : Nat → List Int → List Int → Int → Option (List Int)
 | 0, _, _, _ => none
 | k + 1, x0, x3, x4 => (if x4 < (x0.length : Int) then (if 0 ≤ x4 then (if x4 < (x0.length : Int) then (if 0 ≤ x4 then (if x4 < (x3.length : Int) then (laws_toInt64S.p8 k x0 (x3.set x4.toNat (rd x0 x4)) (wrap64 (x4 + 1))) else none) else none) else none) else none) else (some x3))
def laws_toInt64S.f (k : Nat) (a0 : List Int) : Option (List Int) := (if 0 ≤ (a0.length : Int) then (if (a0.length : Int).toNat ≤ 35184372088832 then (laws_toInt64S.p8 k a0 (List.replicate (a0.length : Int).toNat (0 : Int)) 0) else none) else none)
def spec_l1In.f (a0 : Int) (a1 : Int) (a2 : Int) : Option (Bool) := (if a0 ≥ a1 then (some (decide (a0 ≤ a2))) else (some false))
def spec_l3Type.p6 : Nat → ByteArray → Int → Option (Bool)
 | 0, _, _ => none
 | k + 1, x0, x3 => (if x3 < (x0.size : Int) then (if 0 ≤ x3 then (if x3 < (x0.size : Int) then (if (byteAt x0 x3) = 105 then (spec_l3Type.p6 k x0 (wrap64 (x3 + 1))) else (if 0 ≤ x3 then (if x3 < (x0.size : Int) then (if (byteAt x0 x3) = 114 then (spec_l3Type.p6 k x0 (wrap64 (x3 + 1))) else (some false)) else none) else none)) else none) else none) else ((spec_l1In.f (x0.size : Int) 1 23).bind fun t1 => (some t1)))
def spec_l3Type.f (k : Nat) (a0 : ByteArray) : Option (Bool) := (spec_l3Type.p6 k a0 0)
def spec_TypesOk.p14 : Nat → List ByteArray → Int → Option (Bool)
 | 0, _, _ => none
 | k + 1, x0, x3 => (if x3 < (x0.length : Int) then (if 0 ≤ x3 then (if x3 < (x0.length : Int) then ((spec_l3Type.f k (rdOf ByteArray.empty x0 x3)).bind fun t2 => (if t2 = true then (spec_TypesOk.p14 k x0 (wrap64 (x3 + 1))) else (some false))) else none) else none) else (some true))
def spec_TypesOk.f (k : Nat) (a0 : List ByteArray) : Option (Bool) := ((spec_l1In.f (a0.length : Int) 1 12).bind fun t1 => (if t1 = true then (spec_TypesOk.p14 k a0 0) else (some false)))
def spec_ConfigOk.f (k : Nat) (a0_0 : Int) (a0_1 : Int) (a0_2 : Int) (a0_3 : List ByteArray) : Option (Bool) := ((spec_l1In.f a0_0 8 128).bind fun t1 => (if t1 = true then ((spec_l1In.f a0_1 1 32).bind fun t2 => (if t2 = true then (if a0_1 ≤ (wrap64 (a0_0 - 5)) then ((spec_l1In.f a0_2 2 400).bind fun t3 => (if t3 = true then ((spec_TypesOk.f k a0_3).bind fun t4 => (some t4)) else (some false))) else (some false)) else (some false))) else (some false)))
def spec_l1Zeros.f (a0 : Int) : Option (ByteArray) := (if 0 ≤ a0 then (if a0.toNat ≤ 281474976710656 then (some (strOf (List.replicate a0.toNat (0 : Int)))) else none) else none)
def spec_l6Map.f (a0 : ByteArray) : Option (Bool) := (if (a0.size : Int) = 64 then (if 16 ≤ (a0.size : Int) then ((spec_l1Zeros.f 48).bind fun t1 => (some (decide ((a0.extract 16 (a0.size : Int).toNat).toList = t1.toList)))) else none) else (some false))
def spec_RunOf.f (k : Nat) (a0 : ByteArray) : Option (Int) := ((spec_l3Type.f k a0).bind fun t1 => (if t1 = true then (some (wrap64 (Int.tdiv (wrap64 ((wrap64 (1 + (a0.size : Int))) + 7)) 8))) else (some 0)))
def spec_l6Range.f (a0 : ByteArray) (a1 : Int) (a2 : Int) : Option (Bool) := ((spec_l6Map.f a0).bind fun t1 => (if t1 = true then (if a1 ≥ 0 then (if a1 ≤ a2 then (some (decide (a2 ≤ 128))) else (some false)) else (some false)) else (some false)))
def spec_l6Bit.f (a0 : ByteArray) (a1 : Int) : Option (Bool) := (if 0 ≤ (wrap64 (Int.tdiv a1 8)) then (if (wrap64 (Int.tdiv a1 8)) < (a0.size : Int) then (if (IntKind.wrap .u64 (Int.tmod a1 8)) < 0 then none else (some (decide ((andA .u8 (shrA .u8 (byteAt a0 (wrap64 (Int.tdiv a1 8))) (IntKind.wrap .u64 (Int.tmod a1 8))) 1) = 1)))) else none) else none)
def spec_l6Free.p6 : Nat → ByteArray → Int → Int → Int → Option (Bool)
 | 0, _, _, _, _ => none
 | k + 1, x0, x1, x2, x7 => (if x7 < (wrap64 (x1 + x2)) then ((spec_l6Bit.f x0 x7).bind fun t1 => (if t1 = true then (some false) else (spec_l6Free.p6 k x0 x1 x2 (wrap64 (x7 + 1))))) else (some true))
def spec_l6Free.f (k : Nat) (a0 : ByteArray) (a1 : Int) (a2 : Int) : Option (Bool) := (spec_l6Free.p6 k a0 a1 a2 a1)
def spec_FindRun.p14 : Nat → ByteArray → Int → Int → Int → Option (Int)
 | 0, _, _, _, _ => none
 | k + 1, x0, x2, x3, x9 => (if (wrap64 (x9 + x3)) ≤ x2 then ((spec_l6Free.f k x0 x9 x3).bind fun t3 => (if t3 = true then (some x9) else (spec_FindRun.p14 k x0 x2 x3 (wrap64 (x9 + 1))))) else (some (-1)))
def spec_FindRun.f (k : Nat) (a0 : ByteArray) (a1 : Int) (a2 : Int) (a3 : Int) : Option (Int) := ((spec_l6Range.f a0 a1 a2).bind fun t1 => (if t1 = true then ((spec_l1In.f a3 1 128).bind fun t2 => (if t2 = true then (spec_FindRun.p14 k a0 a2 a3 a1) else (some (-1)))) else (some (-1))))
def spec_l6Turn.p8 : Nat → Int → Int → List Int → Int → Option (ByteArray)
 | 0, _, _, _, _ => none
 | k + 1, x1, x2, x7, x8 => (if x8 < (wrap64 (x1 + x2)) then (if 0 ≤ (wrap64 (Int.tdiv x8 8)) then (if (wrap64 (Int.tdiv x8 8)) < (x7.length : Int) then (if (IntKind.wrap .u64 (Int.tmod x8 8)) < 0 then none else (if 0 ≤ (wrap64 (Int.tdiv x8 8)) then (if (wrap64 (Int.tdiv x8 8)) < (x7.length : Int) then (spec_l6Turn.p8 k x1 x2 (x7.set (wrap64 (Int.tdiv x8 8)).toNat (xorA .u8 (rd x7 (wrap64 (Int.tdiv x8 8))) (shlA .u8 1 (IntKind.wrap .u64 (Int.tmod x8 8))))) (wrap64 (x8 + 1))) else none) else none)) else none) else none) else (some (strOf x7)))
def spec_l6Turn.f (k : Nat) (a0 : ByteArray) (a1 : Int) (a2 : Int) : Option (ByteArray) := (spec_l6Turn.p8 k a1 a2 (numsOf a0) a1)
def spec_l10Plan.p8 : Nat → ByteArray → List Int → Int → Int → Int → List ByteArray → List Int → Int → Option (List Int × ByteArray × Bool)
 | 0, _, _, _, _, _, _, _, _ => none
 | k + 1, x1, x2, x3_0, x3_1, x3_2, x3_3, x9, x10 => (if x10 < (x2.length : Int) then (if 0 ≤ x10 then (if x10 < (x2.length : Int) then (if 0 ≤ (rd x2 x10) then (if (rd x2 x10) < (x3_3.length : Int) then ((spec_RunOf.f k (rdOf ByteArray.empty x3_3 (rd x2 x10))).bind fun t1 => ((spec_FindRun.f k x1 (wrap64 (4 + x3_1)) x3_0 t1).bind fun t2 => (if t2 < 0 then (some (([] : List Int), (⟨#[]⟩ : ByteArray), false)) else ((spec_l6Turn.f k x1 t2 t1).bind fun t3 => (if x9.length + 1 ≤ 17592186044416 then (spec_l10Plan.p8 k t3 x2 x3_0 x3_1 x3_2 x3_3 (x9 ++ ([t2] : List Int)) (wrap64 (x10 + 1))) else none))))) else none) else none) else none) else none) else (some (x9, x1, true)))
def spec_l10Plan.f (k : Nat) (a0_0 : Int) (a0_1 : Int) (a0_2 : Int) (a0_3 : List ByteArray) (a1 : ByteArray) (a2 : List Int) : Option (List Int × ByteArray × Bool) := (spec_l10Plan.p8 k a1 a2 a0_0 a0_1 a0_2 a0_3 ([] : List Int) 0)
def spec_Planned.p14 : Nat → ByteArray → List Int → Int → Int → Int → List ByteArray → Int → Option (List Int × Bool)
 | 0, _, _, _, _, _, _, _ => none
 | k + 1, x1, x2, x3_0, x3_1, x3_2, x3_3, x8 => (if x8 < (x2.length : Int) then (if 0 ≤ x8 then (if x8 < (x2.length : Int) then ((spec_l1In.f (rd x2 x8) 0 (wrap64 ((x3_3.length : Int) - 1))).bind fun t3 => (if t3 = true then (spec_Planned.p14 k x1 x2 x3_0 x3_1 x3_2 x3_3 (wrap64 (x8 + 1))) else (some (([] : List Int), false)))) else none) else none) else ((spec_l10Plan.f k x3_0 x3_1 x3_2 x3_3 x1 x2).bind fun t4 => (some (t4.1, t4.2.2))))
def spec_Planned.f (k : Nat) (a0_0 : Int) (a0_1 : Int) (a0_2 : Int) (a0_3 : List ByteArray) (a1 : ByteArray) (a2 : List Int) : Option (List Int × Bool) := ((spec_ConfigOk.f k a0_0 a0_1 a0_2 a0_3).bind fun t1 => (if t1 = true then ((spec_l6Map.f a1).bind fun t2 => (if t2 = true then (if (a2.length : Int) > 400 then (some (([] : List Int), false)) else (spec_Planned.p14 k a1 a2 a0_0 a0_1 a0_2 a0_3 0)) else (some (([] : List Int), false)))) else (some (([] : List Int), false))))
def impl_within.f (a0 : Int) (a1 : Int) (a2 : Int) : Option (Bool) := (if a0 ≥ a1 then (some (decide (a0 ≤ a2))) else (some false))
def impl_size_string.f (a0 : List ByteArray) : Option (Int) := (some (a0.length : Int))
def strings_Trim.f (a0 a1 : ByteArray) : Option ByteArray :=
  if a0.size ≤ 9223372036854775807 then (if a1.size ≤ 1000 then (if a1.data.toList.all (fun b => decide (b.toNat < 128)) = true then some ⟨(Lib.trimS a0.data.toList a1.data.toList).toArray⟩ else none) else none) else none

def impl_isType.f (a0 : ByteArray) : Option (Bool) := ((impl_within.f (a0.size : Int) 1 23).bind fun t1 => (if t1 = true then ((strings_Trim.f a0 (⟨#[105, 114]⟩ : ByteArray)).bind fun t2 => (some (decide (t2.toList = (⟨#[]⟩ : ByteArray).toList)))) else (some false)))
def impl_TypesOk_1.f (a0 : ByteArray) : Option (Bool) := ((impl_isType.f a0).bind fun t1 => (some (!t1)))
def slices_IndexFunc_string_at_impl_TypesOk_1.p6 : Nat → List ByteArray → Int → Int → Option (Int)
 | 0, _, _, _ => none
 | k + 1, x0, x7, x8 => (if x8 < x7 then (if 0 ≤ x8 then (if x8 < (x0.length : Int) then ((impl_TypesOk_1.f (rdOf ByteArray.empty x0 x8)).bind fun t1 => (if t1 = true then (some x8) else (slices_IndexFunc_string_at_impl_TypesOk_1.p6 k x0 x7 (wrap64 (x8 + 1))))) else none) else none) else (some (-1)))
def slices_IndexFunc_string_at_impl_TypesOk_1.f (k : Nat) (a0 : List ByteArray) : Option (Int) := (slices_IndexFunc_string_at_impl_TypesOk_1.p6 k a0 (a0.length : Int) 0)
def slices_ContainsFunc_string_at_impl_TypesOk_1.f (k : Nat) (a0 : List ByteArray) : Option (Bool) := ((slices_IndexFunc_string_at_impl_TypesOk_1.f k a0).bind fun t1 => (some (decide (t1 ≥ 0))))
def impl_TypesOk.f (k : Nat) (a0 : List ByteArray) : Option (Bool) := ((impl_size_string.f a0).bind fun t1 => ((impl_within.f t1 1 12).bind fun t2 => (if t2 = true then ((slices_ContainsFunc_string_at_impl_TypesOk_1.f k a0).bind fun t3 => (some (!t3))) else (some false))))
def impl_ConfigOk.f (k : Nat) (a0_0 : Int) (a0_1 : Int) (a0_2 : Int) (a0_3 : List ByteArray) : Option (Bool) := ((impl_within.f a0_0 8 128).bind fun t1 => (if t1 = true then ((impl_within.f a0_1 1 (if (wrap64 (a0_0 - 5)) < 32 then (wrap64 (a0_0 - 5)) else 32)).bind fun t2 => (if t2 = true then ((impl_within.f a0_2 2 400).bind fun t3 => (if t3 = true then ((impl_TypesOk.f k a0_3).bind fun t4 => (some t4)) else (some false))) else (some false))) else (some false)))
def strings_Repeat.f (a0 : ByteArray) (a1 : Int) : Option ByteArray :=
  if 0 ≤ a1 then (if a1 ≤ 1048576 then (if a0.size ≤ 1048576 then some ⟨(Lib.repeatL a0.data.toList a1.toNat).toArray⟩ else none) else none) else none

def impl_zeros.f (a0 : Int) : Option (ByteArray) := ((strings_Repeat.f (⟨#[0]⟩ : ByteArray) a0).bind fun t1 => (some t1))
def impl_isMap.f (a0 : ByteArray) : Option (Bool) := (if (a0.size : Int) = 64 then (if 16 ≤ (a0.size : Int) then ((impl_zeros.f 48).bind fun t1 => (some (decide ((a0.extract 16 (a0.size : Int).toNat).toList = t1.toList)))) else none) else (some false))
def impl_Planned_1.f (a0 : Int) (a1 : Int × Int × Int × List ByteArray) : Option (Bool) := ((impl_size_string.f a1.2.2.2).bind fun t1 => ((impl_within.f a0 0 (wrap64 (t1 - 1))).bind fun t2 => (some (!t2))))
def slices_IndexFunc_int64_at_impl_Planned_1.p6 : Nat → List Int → Int × Int × Int × List ByteArray → Int → Int → Option (Int)
 | 0, _, _, _, _ => none
 | k + 1, x0, x1_0, x7, x8 => (if x8 < x7 then (if 0 ≤ x8 then (if x8 < (x0.length : Int) then ((impl_Planned_1.f (rd x0 x8) x1_0).bind fun t1 => (if t1 = true then (some x8) else (slices_IndexFunc_int64_at_impl_Planned_1.p6 k x0 x1_0 x7 (wrap64 (x8 + 1))))) else none) else none) else (some (-1)))
def slices_IndexFunc_int64_at_impl_Planned_1.f (k : Nat) (a0 : List Int) (a1_0 : Int × Int × Int × List ByteArray) : Option (Int) := (slices_IndexFunc_int64_at_impl_Planned_1.p6 k a0 a1_0 (a0.length : Int) 0)
def slices_ContainsFunc_int64_at_impl_Planned_1.f (k : Nat) (a0 : List Int) (a1_0 : Int × Int × Int × List ByteArray) : Option (Bool) := ((slices_IndexFunc_int64_at_impl_Planned_1.f k a0 a1_0).bind fun t1 => (some (decide (t1 ≥ 0))))
def impl_runOf.f (a0 : ByteArray) : Option (Int) := (some (wrap64 (Int.tdiv (wrap64 ((a0.size : Int) + 8)) 8)))
def impl_isArea.f (a0 : ByteArray) (a1 : Int) (a2 : Int) : Option (Bool) := ((impl_isMap.f a0).bind fun t1 => (if t1 = true then (if a1 ≥ 0 then (if a1 ≤ a2 then (some (decide (a2 ≤ 128))) else (some false)) else (some false)) else (some false)))
def impl_isTaken.f (a0 : ByteArray) (a1 : Int) : Option (Bool) := (if 0 ≤ (wrap64 (Int.tdiv a1 8)) then (if (wrap64 (Int.tdiv a1 8)) < (a0.size : Int) then (if (Int.tmod a1 8) < 0 then none else (some (decide ((andA .u8 (shrA .u8 (byteAt a0 (wrap64 (Int.tdiv a1 8))) (Int.tmod a1 8)) 1) = 1)))) else none) else none)
mutual
def impl_gaps.p8 : Nat → ByteArray → Int → List (Int × Int) → Int → Option (List (Int × Int))
 | 0, _, _, _, _ => none
 | k + 1, x0, x2, x7, x8 => (if x8 < x2 then ((impl_isTaken.f x0 x8).bind fun t1 => (if t1 = true then (impl_gaps.p8 k x0 x2 x7 (wrap64 (x8 + 1))) else (if (wrap64 ((x7.length : Int) - 1)) ≥ 0 then (if 0 ≤ (wrap64 ((x7.length : Int) - 1)) then (if (wrap64 ((x7.length : Int) - 1)) < (x7.length : Int) then (if 0 ≤ (wrap64 ((x7.length : Int) - 1)) then (if (wrap64 ((x7.length : Int) - 1)) < (x7.length : Int) then (impl_gaps.p27 k x0 x2 x7 x8 (wrap64 ((x7.length : Int) - 1)) (decide ((wrap64 ((rdOf (0, 0) x7 (wrap64 ((x7.length : Int) - 1))).1 + (rdOf (0, 0) x7 (wrap64 ((x7.length : Int) - 1))).2)) = x8))) else none) else none) else none) else none) else (impl_gaps.p27 k x0 x2 x7 x8 (wrap64 ((x7.length : Int) - 1)) false)))) else (some x7))
def impl_gaps.p27 : Nat → ByteArray → Int → List (Int × Int) → Int → Int → Bool → Option (List (Int × Int))
 | 0, _, _, _, _, _, _ => none
 | k + 1, x0, x2, x7, x8, x9, x39 => (if x39 = true then (if 0 ≤ x9 then (if x9 < (x7.length : Int) then (if 0 ≤ x9 then (if x9 < (x7.length : Int) then (impl_gaps.p8 k x0 x2 (x7.set x9.toNat ((rdOf (0, 0) x7 x9).1, (wrap64 ((rdOf (0, 0) x7 x9).2 + 1)))) (wrap64 (x8 + 1))) else none) else none) else none) else none) else (if x7.length + 1 ≤ 8796093022208 then (impl_gaps.p8 k x0 x2 (x7 ++ ([(x8, 1)] : List (Int × Int))) (wrap64 (x8 + 1))) else none))
end
def impl_gaps.f (k : Nat) (a0 : ByteArray) (a1 : Int) (a2 : Int) : Option (List (Int × Int)) := (impl_gaps.p8 k a0 a2 ([] : List (Int × Int)) a1)
def impl_FindRun.p14 : Nat → Int → List (Int × Int) → Int → Int → Option (Int)
 | 0, _, _, _, _ => none
 | k + 1, x3, x24, x25, x26 => (if x26 < x25 then (if 0 ≤ x26 then (if x26 < (x24.length : Int) then (if (rdOf (0, 0) x24 x26).2 ≥ x3 then (some (rdOf (0, 0) x24 x26).1) else (impl_FindRun.p14 k x3 x24 x25 (wrap64 (x26 + 1)))) else none) else none) else (some (-1)))
def impl_FindRun.f (k : Nat) (a0 : ByteArray) (a1 : Int) (a2 : Int) (a3 : Int) : Option (Int) := ((impl_isArea.f a0 a1 a2).bind fun t1 => (if t1 = true then ((impl_within.f a3 1 128).bind fun t2 => (if t2 = true then ((impl_gaps.f k a0 a1 a2).bind fun t3 => (impl_FindRun.p14 k a3 t3 (t3.length : Int) 0)) else (some (-1)))) else (some (-1))))
mutual
def impl_changedMap.p8 : Nat → Int → Int → Bool → List Int → Int → Option (ByteArray)
 | 0, _, _, _, _, _ => none
 | k + 1, x1, x2, x3, x9, x10 => (if x10 < (wrap64 (x1 + x2)) then (if 0 ≤ (wrap64 (Int.tdiv x10 8)) then (if (wrap64 (Int.tdiv x10 8)) < (x9.length : Int) then (if (Int.tmod x10 8) < 0 then none else (if 0 ≤ (wrap64 (Int.tdiv x10 8)) then (if (wrap64 (Int.tdiv x10 8)) < (x9.length : Int) then (if x3 = true then (if 0 ≤ (wrap64 (Int.tdiv x10 8)) then (if (wrap64 (Int.tdiv x10 8)) < ((x9.set (wrap64 (Int.tdiv x10 8)).toNat (andNotA .u8 (rd x9 (wrap64 (Int.tdiv x10 8))) (shlA .u8 1 (Int.tmod x10 8)))).length : Int) then (if (Int.tmod x10 8) < 0 then none else (if 0 ≤ (wrap64 (Int.tdiv x10 8)) then (if (wrap64 (Int.tdiv x10 8)) < ((x9.set (wrap64 (Int.tdiv x10 8)).toNat (andNotA .u8 (rd x9 (wrap64 (Int.tdiv x10 8))) (shlA .u8 1 (Int.tmod x10 8)))).length : Int) then (impl_changedMap.p24 k x1 x2 x3 ((x9.set (wrap64 (Int.tdiv x10 8)).toNat (andNotA .u8 (rd x9 (wrap64 (Int.tdiv x10 8))) (shlA .u8 1 (Int.tmod x10 8)))).set (wrap64 (Int.tdiv x10 8)).toNat (orA .u8 (rd (x9.set (wrap64 (Int.tdiv x10 8)).toNat (andNotA .u8 (rd x9 (wrap64 (Int.tdiv x10 8))) (shlA .u8 1 (Int.tmod x10 8)))) (wrap64 (Int.tdiv x10 8))) (shlA .u8 1 (Int.tmod x10 8)))) x10) else none) else none)) else none) else none) else (impl_changedMap.p24 k x1 x2 x3 (x9.set (wrap64 (Int.tdiv x10 8)).toNat (andNotA .u8 (rd x9 (wrap64 (Int.tdiv x10 8))) (shlA .u8 1 (Int.tmod x10 8)))) x10)) else none) else none)) else none) else none) else (some (strOf x9)))
def impl_changedMap.p24 : Nat → Int → Int → Bool → List Int → Int → Option (ByteArray)
 | 0, _, _, _, _, _ => none
 | k + 1, x1, x2, x3, x9, x10 => (impl_changedMap.p8 k x1 x2 x3 x9 (wrap64 (x10 + 1)))
end
def impl_changedMap.f (k : Nat) (a0 : ByteArray) (a1 : Int) (a2 : Int) (a3 : Bool) : Option (ByteArray) := (impl_changedMap.p8 k a1 a2 a3 (numsOf a0) a1)
def impl_planned.p8 : Nat → ByteArray → Int → Int → Int → List ByteArray → List Int → List Int → Int → Int → Option (List Int × ByteArray × Bool)
 | 0, _, _, _, _, _, _, _, _, _ => none
 | k + 1, x1, x3_0, x3_1, x3_2, x3_3, x9, x15, x16, x17 => (if x17 < x16 then (if 0 ≤ x17 then (if x17 < (x15.length : Int) then (if 0 ≤ (rd x15 x17) then (if (rd x15 x17) < (x3_3.length : Int) then ((impl_runOf.f (rdOf ByteArray.empty x3_3 (rd x15 x17))).bind fun t1 => ((impl_FindRun.f k x1 (wrap64 (4 + x3_1)) x3_0 t1).bind fun t2 => (if t2 < 0 then (some (([] : List Int), (⟨#[]⟩ : ByteArray), false)) else ((impl_changedMap.f k x1 t2 t1 true).bind fun t3 => (if x9.length + 1 ≤ 17592186044416 then (impl_planned.p8 k t3 x3_0 x3_1 x3_2 x3_3 (x9 ++ ([t2] : List Int)) x15 x16 (wrap64 (x17 + 1))) else none))))) else none) else none) else none) else none) else (some (x9, x1, true)))
def impl_planned.f (k : Nat) (a0_0 : Int) (a0_1 : Int) (a0_2 : Int) (a0_3 : List ByteArray) (a1 : ByteArray) (a2 : List Int) : Option (List Int × ByteArray × Bool) := (impl_planned.p8 k a1 a0_0 a0_1 a0_2 a0_3 ([] : List Int) a2 (a2.length : Int) 0)
def impl_Planned.f (k : Nat) (a0_0 : Int) (a0_1 : Int) (a0_2 : Int) (a0_3 : List ByteArray) (a1 : ByteArray) (a2 : List Int) : Option (List Int × Bool) := ((impl_ConfigOk.f k a0_0 a0_1 a0_2 a0_3).bind fun t1 => (if t1 = true then ((impl_isMap.f a1).bind fun t2 => (if t2 = true then (if (a2.length : Int) > 400 then (some (([] : List Int), false)) else ((slices_ContainsFunc_int64_at_impl_Planned_1.f k a2 (a0_0, (a0_1, (a0_2, a0_3)))).bind fun t3 => (if t3 = true then (some (([] : List Int), false)) else ((impl_planned.f k a0_0 a0_1 a0_2 a0_3 a1 a2).bind fun t4 => (some (t4.1, t4.2.2)))))) else (some (([] : List Int), false)))) else (some (([] : List Int), false))))
def laws_eqInt64S.p14 : Nat → List Int → List Int → Int → Option (Bool)
 | 0, _, _, _ => none
 | k + 1, x0, x1, x5 => (if x5 < (x0.length : Int) then (if 0 ≤ x5 then (if x5 < (x0.length : Int) then (if 0 ≤ x5 then (if x5 < (x1.length : Int) then (if (rd x0 x5) = (rd x1 x5) then (laws_eqInt64S.p14 k x0 x1 (wrap64 (x5 + 1))) else (some false)) else none) else none) else none) else none) else (some true))
def laws_eqInt64S.f (k : Nat) (a0 : List Int) (a1 : List Int) : Option (Bool) := (if (a0.length : Int) = (a1.length : Int) then (laws_eqInt64S.p14 k a0 a1 0) else (some false))
def laws_eqStringS.p14 : Nat → List ByteArray → List ByteArray → Int → Option (Bool)
 | 0, _, _, _ => none
 | k + 1, x0, x1, x5 => (if x5 < (x0.length : Int) then (if 0 ≤ x5 then (if x5 < (x0.length : Int) then (if 0 ≤ x5 then (if x5 < (x1.length : Int) then (if (rdOf ByteArray.empty x0 x5).toList = (rdOf ByteArray.empty x1 x5).toList then (laws_eqStringS.p14 k x0 x1 (wrap64 (x5 + 1))) else (some false)) else none) else none) else none) else none) else (some true))
def laws_eqStringS.f (k : Nat) (a0 : List ByteArray) (a1 : List ByteArray) : Option (Bool) := (if (a0.length : Int) = (a1.length : Int) then (laws_eqStringS.p14 k a0 a1 0) else (some false))
def laws_eqConfig.f (k : Nat) (a0_0 : Int) (a0_1 : Int) (a0_2 : Int) (a0_3 : List ByteArray) (a1_0 : Int) (a1_1 : Int) (a1_2 : Int) (a1_3 : List ByteArray) : Option (Bool) := (if a0_0 = a1_0 then (if a0_1 = a1_1 then (if a0_2 = a1_2 then ((laws_eqStringS.f k a0_3 a1_3).bind fun t1 => (if t1 = true then (some true) else (some false))) else (some false)) else (some false)) else (some false))
def laws_markText.p14 : Nat → Int → ByteArray → Option (ByteArray)
 | 0, _, _ => none
 | k + 1, x0, x3 => (if x0 > 0 then (if (strOf ([((wrap64 (48 + (Int.tmod x0 10))) % 256)] : List Int)).size + x3.size ≤ 9223372036854775807 then (laws_markText.p14 k (wrap64 (Int.tdiv x0 10)) ((strOf ([((wrap64 (48 + (Int.tmod x0 10))) % 256)] : List Int)) ++ x3)) else none) else (if (⟨#[109]⟩ : ByteArray).size + x3.size ≤ 9223372036854775807 then (some ((⟨#[109]⟩ : ByteArray) ++ x3)) else none))
def laws_markText.f (k : Nat) (a0 : Int) : Option (ByteArray) := (if a0 ≤ 0 then (some (⟨#[109, 48]⟩ : ByteArray)) else (laws_markText.p14 k a0 (⟨#[]⟩ : ByteArray)))
def laws_markStringS.p6 : Nat → List ByteArray → Int → Int → Option (List ByteArray × Int)
 | 0, _, _, _ => none
 | k + 1, h0, x1, x5 => (if x5 < (h0.length : Int) then ((laws_markText.f k x1).bind fun t1 => (if 0 ≤ x5 then (if x5 < (h0.length : Int) then (laws_markStringS.p6 k (h0.set x5.toNat t1) (wrap64 (x1 + 1)) (wrap64 (x5 + 1))) else none) else none)) else (some (h0, x1)))
def laws_markStringS.f (k : Nat) (a0 : List ByteArray) (a1 : Int) : Option (List ByteArray × Int) := (laws_markStringS.p6 k a0 a1 0)
def laws_markConfig.f (k : Nat) (a0_0 : Int) (a0_1 : Int) (a0_2 : Int) (a0_3 : List ByteArray) (a1 : Int) : Option (List ByteArray × Int) := ((laws_markStringS.f k a0_3 a1).bind fun t1 => (some (t1.1, t1.2)))
def laws_markInt64S.p6 : Nat → List Int → Int → Int → Option (List Int × Int)
 | 0, _, _, _ => none
 | k + 1, h0, x1, x5 => (if x5 < (h0.length : Int) then (if 0 ≤ x5 then (if x5 < (h0.length : Int) then (laws_markInt64S.p6 k (h0.set x5.toNat x1) (wrap64 (x1 + 1)) (wrap64 (x5 + 1))) else none) else none) else (some (h0, x1)))
def laws_markInt64S.f (k : Nat) (a0 : List Int) (a1 : Int) : Option (List Int × Int) := (laws_markInt64S.p6 k a0 a1 0)
def laws_heldInt64S.p6 : Nat → List Int → Int → Int → Option (Int)
 | 0, _, _, _ => none
 | k + 1, x0, x1, x5 => (if x5 < (x0.length : Int) then (if 0 ≤ x5 then (if x5 < (x0.length : Int) then (if (rd x0 x5) = x1 then (laws_heldInt64S.p6 k x0 (wrap64 (x1 + 1)) (wrap64 (x5 + 1))) else (some (-1))) else none) else none) else (some x1))
def laws_heldInt64S.f (k : Nat) (a0 : List Int) (a1 : Int) : Option (Int) := (laws_heldInt64S.p6 k a0 a1 0)
mutual
def laws_FnExactPlanned.p41 : Nat → ByteArray → List Int → Int → Int → Int → List ByteArray → List Int → Bool → Int → Int → Int → List ByteArray → List Int → List Int → Bool → Bool → Option (Bool)
 | 0, _, _, _, _, _, _, _, _, _, _, _, _, _, _, _, _ => none
 | k + 1, x1, x2, x3_0, x3_1, x3_2, x3_3, x8, x9, x10_0, x10_1, x10_2, x10_3, x11, x12, x13, x58 => (if x58 = true then (some false) else ((laws_toConfig.f k x3_0 x3_1 x3_2 x3_3).bind fun t16 => ((laws_eqConfig.f k x10_0 x10_1 x10_2 x10_3 t16.1 t16.2.1 t16.2.2.1 t16.2.2.2).bind fun t17 => (if t17 = true then ((laws_toInt64S.f k x2).bind fun t18 => ((laws_eqInt64S.f k x11 t18).bind fun t19 => (if t19 = true then ((laws_markConfig.f k x10_0 x10_1 x10_2 x10_3 1).bind fun t20 => ((laws_markInt64S.f k x11 t20.2).bind fun t21 => (if t21.2 < 0 then (laws_FnExactPlanned.p71 k x1 x2 x3_0 x3_1 x3_2 x3_3 x8 x9 x12 true) else ((laws_eqInt64S.f k x12 x8).bind fun t22 => (if t22 = true then (laws_FnExactPlanned.p71 k x1 x2 x3_0 x3_1 x3_2 x3_3 x8 x9 x12 (!decide (x13 = x9))) else (laws_FnExactPlanned.p71 k x1 x2 x3_0 x3_1 x3_2 x3_3 x8 x9 x12 true)))))) else (some false)))) else (some false)))))
def laws_FnExactPlanned.p71 : Nat → ByteArray → List Int → Int → Int → Int → List ByteArray → List Int → Bool → List Int → Bool → Option (Bool)
 | 0, _, _, _, _, _, _, _, _, _, _ => none
 | k + 1, x1, x2, x3_0, x3_1, x3_2, x3_3, x8, x9, x12, x87 => (if x87 = true then (some false) else ((laws_markInt64S.f k x12 1).bind fun t9 => ((laws_heldInt64S.f k t9.1 1).bind fun t10 => (if t10 < 0 then (some false) else (if t10 = t9.2 then ((laws_toConfig.f k x3_0 x3_1 x3_2 x3_3).bind fun t11 => ((laws_toInt64S.f k x2).bind fun t12 => ((impl_Planned.f k t11.1 t11.2.1 t11.2.2.1 t11.2.2.2 x1 t12).bind fun t13 => ((laws_eqInt64S.f k t13.1 x8).bind fun t14 => (if t14 = true then (if t13.2 = x9 then ((laws_heldInt64S.f k t9.1 1).bind fun t15 => (if t15 < 0 then (some false) else (if t15 = t9.2 then (some true) else (some false)))) else (some false)) else (some false)))))) else (some false))))))
end
def laws_FnExactPlanned.f (k : Nat) (a0_0 : Int) (a0_1 : Int) (a0_2 : Int) (a0_3 : List ByteArray) (a1 : ByteArray) (a2 : List Int) : Option (Bool) := (if (a1.size : Int) > 1048576 then (some true) else (if (a2.length : Int) > 1048576 then (some true) else ((laws_szConfig.f k a0_0 a0_1 a0_2 a0_3 1048576).bind fun t1 => (if t1 < 0 then (some true) else ((laws_toConfig.f k a0_0 a0_1 a0_2 a0_3).bind fun t2 => ((laws_toInt64S.f k a2).bind fun t3 => ((spec_Planned.f k t2.1 t2.2.1 t2.2.2.1 t2.2.2.2 a1 t3).bind fun t4 => ((laws_toConfig.f k a0_0 a0_1 a0_2 a0_3).bind fun t5 => ((laws_toInt64S.f k a2).bind fun t6 => ((impl_Planned.f k t5.1 t5.2.1 t5.2.2.1 t5.2.2.2 a1 t6).bind fun t7 => ((laws_eqInt64S.f k t7.1 t4.1).bind fun t8 => (if t8 = true then (laws_FnExactPlanned.p41 k a1 a2 a0_0 a0_1 a0_2 a0_3 t4.1 t4.2 t5.1 t5.2.1 t5.2.2.1 t5.2.2.2 t6 t7.1 t7.2 (!decide (t7.2 = t4.2))) else (laws_FnExactPlanned.p41 k a1 a2 a0_0 a0_1 a0_2 a0_3 t4.1 t4.2 t5.1 t5.2.1 t5.2.2.1 t5.2.2.2 t6 t7.1 t7.2 true)))))))))))))
/-- What is left to show. -/
def laws_FnExactPlanned.Pure : Prop := ∀ (x0 : Int × Int × Int × List ByteArray) (x1 : ByteArray) (x2 : List Int), Ty.ok (.pair (.int .i64) (.pair (.int .i64) (.pair (.int .i64) (.sl .str)))) x0 → Ty.ok .str x1 → Ty.ok (.sl (.int .i64)) x2 → ∃ k, laws_FnExactPlanned.f k x0.1 x0.2.1 x0.2.2.1 x0.2.2.2 x1 x2 = some true
def impl_RefKind.f (a0 : Int) : Option (Int) := (if a0 = 0 then (some 0) else ((impl_within.f a0 2 254).bind fun t1 => (if t1 = true then (if (Int.tmod a0 2) = 0 then (some 1) else ((impl_within.f a0 1 799).bind fun t2 => (if t2 = true then (if (Int.tmod a0 2) = 1 then (some 2) else (some (-1))) else (some (-1))))) else ((impl_within.f a0 1 799).bind fun t3 => (if t3 = true then (if (Int.tmod a0 2) = 1 then (some 2) else (some (-1))) else (some (-1)))))))
def impl_ObjOk_1.f (a0 : Int) : Option (Bool) := ((impl_RefKind.f a0).bind fun t1 => (some (decide (t1 ≥ 0))))
def impl_isObject_at_impl_ObjOk_1.p14 : Nat → List ByteArray → Int → List Int → List Int → Int → Int → Option (Bool)
 | 0, _, _, _, _, _, _ => none
 | k + 1, x0, x4_0, x4_1, x29, x30, x31 => (if x31 < x30 then (if 0 ≤ x31 then (if x31 < (x29.length : Int) then (if 0 ≤ x4_0 then (if x4_0 < (x0.length : Int) then (if 0 ≤ x31 then (if x31 < ((rdOf ByteArray.empty x0 x4_0).size : Int) then (if (byteAt (rdOf ByteArray.empty x0 x4_0) x31) = 114 then ((impl_ObjOk_1.f (rd x29 x31)).bind fun t3 => (if t3 = true then (impl_isObject_at_impl_ObjOk_1.p14 k x0 x4_0 x4_1 x29 x30 (wrap64 (x31 + 1))) else (some false))) else (impl_isObject_at_impl_ObjOk_1.p14 k x0 x4_0 x4_1 x29 x30 (wrap64 (x31 + 1)))) else none) else none) else none) else none) else none) else none) else (some true))
def impl_isObject_at_impl_ObjOk_1.f (k : Nat) (a0 : List ByteArray) (a1_0 : Int) (a1_1 : List Int) : Option (Bool) := ((impl_size_string.f a0).bind fun t1 => ((impl_within.f a1_0 0 (wrap64 (t1 - 1))).bind fun t2 => (if t2 = true then (if 0 ≤ a1_0 then (if a1_0 < (a0.length : Int) then (if (a1_1.length : Int) = ((rdOf ByteArray.empty a0 a1_0).size : Int) then (impl_isObject_at_impl_ObjOk_1.p14 k a0 a1_0 a1_1 a1_1 (a1_1.length : Int) 0) else (some false)) else none) else none) else (some false))))
def impl_ObjOk.f (k : Nat) (a0 : List ByteArray) (a1_0 : Int) (a1_1 : List Int) : Option (Bool) := ((impl_TypesOk.f k a0).bind fun t1 => (if t1 = true then ((impl_isObject_at_impl_ObjOk_1.f k a0 a1_0 a1_1).bind fun t2 => (some t2)) else (some false)))
def impl_bigBytes.p8 : Nat → Int → Int → List Int → Int → Int → Option (ByteArray)
 | 0, _, _, _, _, _ => none
 | k + 1, x0, x1, x5, x10, x11 => (if x11 < x10 then (if 0 ≤ (wrap64 ((wrap64 (x1 - 1)) - x11)) then (if (wrap64 ((wrap64 (x1 - 1)) - x11)) < (x5.length : Int) then (impl_bigBytes.p8 k (shrA .u64 x0 8) x1 (x5.set (wrap64 ((wrap64 (x1 - 1)) - x11)).toNat (x0 % 256)) x10 (wrap64 (x11 + 1))) else none) else none) else (some (strOf x5)))
def impl_bigBytes.f (k : Nat) (a0 : Int) (a1 : Int) : Option (ByteArray) := (if 0 ≤ a1 then (if a1.toNat ≤ 281474976710656 then (impl_bigBytes.p8 k a0 a1 (List.replicate a1.toNat (0 : Int)) ((List.replicate a1.toNat (0 : Int)).length : Int) 0) else none) else none)
def impl_WordBytes.f (k : Nat) (a0 : Int) : Option (ByteArray) := ((impl_bigBytes.f k (IntKind.wrap .u64 a0) 8).bind fun t1 => (some t1))
def impl_objectBytes.p8 : Nat → List ByteArray → Int → List Int → ByteArray → List Int → Int → Int → Option (ByteArray)
 | 0, _, _, _, _, _, _, _ => none
 | k + 1, x0, x3_0, x3_1, x5, x13, x14, x15 => (if x15 < x14 then (if 0 ≤ x15 then (if x15 < (x13.length : Int) then ((impl_WordBytes.f k (rd x13 x15)).bind fun t2 => (if x5.size + t2.size ≤ 9223372036854775807 then (impl_objectBytes.p8 k x0 x3_0 x3_1 (x5 ++ t2) x13 x14 (wrap64 (x15 + 1))) else none)) else none) else none) else (if 0 ≤ x3_0 then (if x3_0 < (x0.length : Int) then ((impl_runOf.f (rdOf ByteArray.empty x0 x3_0)).bind fun t3 => ((impl_zeros.f (wrap64 ((wrap64 (64 * t3)) - (x5.size : Int)))).bind fun t4 => (if x5.size + t4.size ≤ 9223372036854775807 then (some (x5 ++ t4)) else none))) else none) else none))
def impl_objectBytes.f (k : Nat) (a0 : List ByteArray) (a1_0 : Int) (a1_1 : List Int) : Option (ByteArray) := ((impl_WordBytes.f k (wrap64 (a1_0 + 1))).bind fun t1 => (impl_objectBytes.p8 k a0 a1_0 a1_1 t1 a1_1 (a1_1.length : Int) 0))
def impl_ObjectBytes.f (k : Nat) (a0 : List ByteArray) (a1_0 : Int) (a1_1 : List Int) : Option (ByteArray) := ((impl_ObjOk.f k a0 a1_0 a1_1).bind fun t1 => (if t1 = true then ((impl_objectBytes.f k a0 a1_0 a1_1).bind fun t2 => (some t2)) else (some (⟨#[]⟩ : ByteArray))))
def impl_wordAt.p8 : Nat → ByteArray → Int → Int → Int → Option (Int)
 | 0, _, _, _, _ => none
 | k + 1, x0, x1, x5, x7 => (if x7 < 8 then (if 0 ≤ (wrap64 (x1 + x7)) then (if (wrap64 (x1 + x7)) < (x0.size : Int) then (impl_wordAt.p8 k x0 x1 (orA .i64 (shlA .i64 x5 8) (wrap64 (byteAt x0 (wrap64 (x1 + x7))))) (wrap64 (x7 + 1))) else none) else none) else (some x5))
def impl_wordAt.f (k : Nat) (a0 : ByteArray) (a1 : Int) : Option (Int) := (impl_wordAt.p8 k a0 a1 0 0)
def impl_objectOf.p8 : Nat → ByteArray → Int → Int → List Int → Int → Int → Option (Int × List Int)
 | 0, _, _, _, _, _, _ => none
 | k + 1, x2, x6_0, x7_0, x7_1, x15, x16 => (if x16 < x15 then ((impl_wordAt.f k x2 (wrap64 (8 + (wrap64 (8 * x16))))).bind fun t1 => (if x7_1.length + 1 ≤ 17592186044416 then (impl_objectOf.p8 k x2 x6_0 x7_0 (x7_1 ++ ([t1] : List Int)) x15 (wrap64 (x16 + 1))) else none)) else (some (x7_0, x7_1)))
def impl_objectOf.f (k : Nat) (a0 : List ByteArray) (a1 : Int) (a2 : ByteArray) : Option (Int × List Int) := (if 0 ≤ a1 then (if a1 < (a0.length : Int) then (impl_objectOf.p8 k a2 0 a1 ([] : List Int) ((rdOf ByteArray.empty a0 a1).size : Int) 0) else none) else none)
mutual
def impl_ReadObject.p5 : Nat → List ByteArray → ByteArray → Int → Bool → Option (Int × List Int × Bool)
 | 0, _, _, _, _ => none
 | k + 1, x0, x1, x4_0, x15 => (if x15 = true then (some (0, ([] : List Int), false)) else ((impl_wordAt.f k x1 0).bind fun t4 => ((impl_size_string.f x0).bind fun t5 => ((impl_within.f t4 1 t5).bind fun t6 => (if t6 = true then (if 0 ≤ (wrap64 (t4 - 1)) then (if (wrap64 (t4 - 1)) < (x0.length : Int) then ((impl_runOf.f (rdOf ByteArray.empty x0 (wrap64 (t4 - 1)))).bind fun t7 => (impl_ReadObject.p15 k x0 x1 x4_0 t4 (!decide ((x1.size : Int) = (wrap64 (64 * t7)))))) else none) else none) else (impl_ReadObject.p15 k x0 x1 x4_0 t4 true))))))
def impl_ReadObject.p15 : Nat → List ByteArray → ByteArray → Int → Int → Bool → Option (Int × List Int × Bool)
 | 0, _, _, _, _, _ => none
 | k + 1, x0, x1, x4_0, x6, x35 => (if x35 = true then (some (0, ([] : List Int), false)) else ((impl_objectOf.f k x0 (wrap64 (x6 - 1)) x1).bind fun t2 => ((impl_ObjectBytes.f k x0 t2.1 t2.2).bind fun t3 => (if t3.toList = x1.toList then (some (t2.1, t2.2, true)) else (some (0, ([] : List Int), false))))))
end
def impl_ReadObject.f (k : Nat) (a0 : List ByteArray) (a1 : ByteArray) : Option (Int × List Int × Bool) := ((impl_TypesOk.f k a0).bind fun t1 => (if t1 = true then (impl_ReadObject.p5 k a0 a1 0 (decide ((a1.size : Int) < 8))) else (impl_ReadObject.p5 k a0 a1 0 true)))
def impl_isRun.p14 : Nat → ByteArray → Int → Int → Bool → Int → Option (Bool)
 | 0, _, _, _, _, _ => none
 | k + 1, x0, x1, x2, x3, x9 => (if x9 < (wrap64 (x1 + x2)) then ((impl_isTaken.f x0 x9).bind fun t4 => (if t4 = x3 then (impl_isRun.p14 k x0 x1 x2 x3 (wrap64 (x9 + 1))) else (some false))) else (some true))
def impl_isRun.f (k : Nat) (a0 : ByteArray) (a1 : Int) (a2 : Int) (a3 : Bool) : Option (Bool) := ((impl_isMap.f a0).bind fun t1 => (if t1 = true then ((impl_within.f a2 1 128).bind fun t2 => (if t2 = true then ((impl_within.f a1 0 (wrap64 (128 - a2))).bind fun t3 => (if t3 = true then (impl_isRun.p14 k a0 a1 a2 a3 a1) else (some false))) else (some false))) else (some false)))
def impl_TakeRun.f (k : Nat) (a0 : ByteArray) (a1 : Int) (a2 : Int) : Option (ByteArray × Bool) := ((impl_isRun.f k a0 a1 a2 false).bind fun t1 => (if t1 = true then ((impl_changedMap.f k a0 a1 a2 true).bind fun t2 => (some (t2, true))) else (some ((⟨#[]⟩ : ByteArray), false))))
def spec_RefKind.f (a0 : Int) : Option (Int) := (if a0 = 0 then (some 0) else ((spec_l1In.f a0 2 254).bind fun t1 => (if t1 = true then (if (Int.tmod a0 2) = 0 then (some 1) else ((spec_l1In.f a0 1 799).bind fun t2 => (if t2 = true then (if (Int.tmod a0 2) = 1 then (some 2) else (some (-1))) else (some (-1))))) else ((spec_l1In.f a0 1 799).bind fun t3 => (if t3 = true then (if (Int.tmod a0 2) = 1 then (some 2) else (some (-1))) else (some (-1)))))))
def spec_ObjOk.p14 : Nat → List ByteArray → Int → List Int → Int → Option (Bool)
 | 0, _, _, _, _ => none
 | k + 1, x0, x3_0, x3_1, x5 => (if x5 < (x3_1.length : Int) then (if 0 ≤ x3_0 then (if x3_0 < (x0.length : Int) then (if 0 ≤ x5 then (if x5 < ((rdOf ByteArray.empty x0 x3_0).size : Int) then (if (byteAt (rdOf ByteArray.empty x0 x3_0) x5) = 114 then (if 0 ≤ x5 then (if x5 < (x3_1.length : Int) then ((spec_RefKind.f (rd x3_1 x5)).bind fun t3 => (if t3 < 0 then (some false) else (spec_ObjOk.p14 k x0 x3_0 x3_1 (wrap64 (x5 + 1))))) else none) else none) else (spec_ObjOk.p14 k x0 x3_0 x3_1 (wrap64 (x5 + 1)))) else none) else none) else none) else none) else (some true))
def spec_ObjOk.f (k : Nat) (a0 : List ByteArray) (a1_0 : Int) (a1_1 : List Int) : Option (Bool) := ((spec_TypesOk.f k a0).bind fun t1 => (if t1 = true then ((spec_l1In.f a1_0 0 (wrap64 ((a0.length : Int) - 1))).bind fun t2 => (if t2 = true then (if 0 ≤ a1_0 then (if a1_0 < (a0.length : Int) then (if (a1_1.length : Int) = ((rdOf ByteArray.empty a0 a1_0).size : Int) then (spec_ObjOk.p14 k a0 a1_0 a1_1 0) else (some false)) else none) else none) else (some false))) else (some false)))
def spec_WordBytes.p8 : Nat → Int → List Int → Int → Option (ByteArray)
 | 0, _, _, _ => none
 | k + 1, x0, x3, x4 => (if x4 < 8 then (if (IntKind.wrap .u64 (wrap64 (56 - (wrap64 (8 * x4))))) < 0 then none else (if 0 ≤ x4 then (if x4 < (x3.length : Int) then (spec_WordBytes.p8 k x0 (x3.set x4.toNat ((shrA .u64 (IntKind.wrap .u64 x0) (IntKind.wrap .u64 (wrap64 (56 - (wrap64 (8 * x4)))))) % 256)) (wrap64 (x4 + 1))) else none) else none)) else (some (strOf x3)))
def spec_WordBytes.f (k : Nat) (a0 : Int) : Option (ByteArray) := (spec_WordBytes.p8 k a0 (List.replicate 8 (0 : Int)) 0)
def spec_ObjectBytes.p16 : Nat → List ByteArray → Int → List Int → ByteArray → Int → Option (ByteArray)
 | 0, _, _, _, _, _ => none
 | k + 1, x0, x3_0, x3_1, x5, x6 => (if x6 < (x3_1.length : Int) then (if 0 ≤ x6 then (if x6 < (x3_1.length : Int) then ((spec_WordBytes.f k (rd x3_1 x6)).bind fun t3 => (if x5.size + t3.size ≤ 9223372036854775807 then (spec_ObjectBytes.p16 k x0 x3_0 x3_1 (x5 ++ t3) (wrap64 (x6 + 1))) else none)) else none) else none) else (if 0 ≤ x3_0 then (if x3_0 < (x0.length : Int) then ((spec_RunOf.f k (rdOf ByteArray.empty x0 x3_0)).bind fun t4 => ((spec_l1Zeros.f (wrap64 ((wrap64 (64 * t4)) - (x5.size : Int)))).bind fun t5 => (if x5.size + t5.size ≤ 9223372036854775807 then (some (x5 ++ t5)) else none))) else none) else none))
def spec_ObjectBytes.f (k : Nat) (a0 : List ByteArray) (a1_0 : Int) (a1_1 : List Int) : Option (ByteArray) := ((spec_ObjOk.f k a0 a1_0 a1_1).bind fun t1 => (if t1 = true then ((spec_WordBytes.f k (wrap64 (a1_0 + 1))).bind fun t2 => (spec_ObjectBytes.p16 k a0 a1_0 a1_1 t2 0)) else (some (⟨#[]⟩ : ByteArray))))
def spec_ReadWord.p16 : Nat → ByteArray → Int → Int → Option (Int × Bool)
 | 0, _, _, _ => none
 | k + 1, x0, x4, x5 => (if x5 < 8 then (if 0 ≤ x5 then (if x5 < (x0.size : Int) then (spec_ReadWord.p16 k x0 (orA .u64 (shlA .u64 x4 8) (IntKind.wrap .u64 (byteAt x0 x5))) (wrap64 (x5 + 1))) else none) else none) else (some ((wrap64 x4), true)))
def spec_ReadWord.f (k : Nat) (a0 : ByteArray) : Option (Int × Bool) := (if (a0.size : Int) = 8 then (spec_ReadWord.p16 k a0 0 0) else (some (0, false)))
mutual
def spec_ReadObject.p5 : Nat → List ByteArray → ByteArray → Int → Bool → Option (Int × List Int × Bool)
 | 0, _, _, _, _ => none
 | k + 1, x0, x1, x4_0, x19 => (if x19 = true then (some (0, ([] : List Int), false)) else (if 8 ≤ (x1.size : Int) then ((spec_ReadWord.f k (x1.extract 0 8)).bind fun t4 => ((spec_l1In.f t4.1 1 (x0.length : Int)).bind fun t5 => (if t5 = true then (if 0 ≤ (wrap64 (t4.1 - 1)) then (if (wrap64 (t4.1 - 1)) < (x0.length : Int) then ((spec_RunOf.f k (rdOf ByteArray.empty x0 (wrap64 (t4.1 - 1)))).bind fun t6 => (if (x1.size : Int) = (wrap64 (64 * t6)) then (spec_ReadObject.p26 k x0 x1 x4_0 t4.1 (wrap64 (t4.1 - 1)) ([] : List Int) 0) else (some (0, ([] : List Int), false)))) else none) else none) else (some (0, ([] : List Int), false))))) else none))
def spec_ReadObject.p26 : Nat → List ByteArray → ByteArray → Int → Int → Int → List Int → Int → Option (Int × List Int × Bool)
 | 0, _, _, _, _, _, _, _ => none
 | k + 1, x0, x1, x4_0, x6, x8_0, x8_1, x9 => (if 0 ≤ (wrap64 (x6 - 1)) then (if (wrap64 (x6 - 1)) < (x0.length : Int) then (if x9 < ((rdOf ByteArray.empty x0 (wrap64 (x6 - 1))).size : Int) then (if 0 ≤ (wrap64 (16 + (wrap64 (8 * x9)))) then (if (wrap64 (16 + (wrap64 (8 * x9)))) ≤ (x1.size : Int) then (if 0 ≤ (wrap64 (8 + (wrap64 (8 * x9)))) then (if (wrap64 (8 + (wrap64 (8 * x9)))) ≤ (wrap64 (16 + (wrap64 (8 * x9)))) then ((spec_ReadWord.f k (x1.extract (wrap64 (8 + (wrap64 (8 * x9)))).toNat (wrap64 (16 + (wrap64 (8 * x9)))).toNat)).bind fun t2 => (if x8_1.length + 1 ≤ 17592186044416 then (spec_ReadObject.p26 k x0 x1 x4_0 x6 x8_0 (x8_1 ++ ([t2.1] : List Int)) (wrap64 (x9 + 1))) else none)) else none) else none) else none) else none) else ((spec_ObjectBytes.f k x0 x8_0 x8_1).bind fun t3 => (if t3.toList = x1.toList then (some (x8_0, x8_1, true)) else (some (0, ([] : List Int), false))))) else none) else none)
end
def spec_ReadObject.f (k : Nat) (a0 : List ByteArray) (a1 : ByteArray) : Option (Int × List Int × Bool) := ((spec_TypesOk.f k a0).bind fun t1 => (if t1 = true then (spec_ReadObject.p5 k a0 a1 0 (decide ((a1.size : Int) < 64))) else (spec_ReadObject.p5 k a0 a1 0 true)))
def spec_l9Word.f (k : Nat) (a0 : ByteArray) (a1 : Int) : Option (Int) := (if 0 ≤ (wrap64 ((wrap64 (8 * a1)) + 8)) then (if (wrap64 ((wrap64 (8 * a1)) + 8)) ≤ (a0.size : Int) then (if 0 ≤ (wrap64 (8 * a1)) then (if (wrap64 (8 * a1)) ≤ (wrap64 ((wrap64 (8 * a1)) + 8)) then ((spec_ReadWord.f k (a0.extract (wrap64 (8 * a1)).toNat (wrap64 ((wrap64 (8 * a1)) + 8)).toNat)).bind fun t1 => (some t1.1)) else none) else none) else none) else none)
end
end Go.Proofs.YtlljkankongifaaDoor.Abs
namespace Go.Proofs.YtlljkankongifaaDoor.Abs.Pu
open Go Go.RowKit
set_option linter.unusedVariables false
set_option linter.unusedSectionVars false
set_option linter.unusedSimpArgs false
theorem impl_zeros_f (n : Nat) (h : n ≤ 1048576) : impl_zeros.f (n : Int) = some (zerosB n) := by
  unfold impl_zeros.f strings_Repeat.f
  rw [if_pos (by omega), if_pos (by omega), if_pos (by decide)]
  simp only [Option.bind_some, Int.toNat_natCast]
  refine congrArg some ?_
  rw [repeat_zero]
  simp [zerosB, strOfNums]
theorem spec_l1Zeros_f (n : Nat) (h : n ≤ 1048576) : spec_l1Zeros.f (n : Int) = some (zerosB n) := by
  unfold spec_l1Zeros.f
  rw [if_pos (by omega), if_pos (by rw [Int.toNat_natCast]; omega), Int.toNat_natCast]
  rfl
end Go.Proofs.YtlljkankongifaaDoor.Abs.Pu
namespace Go.Proofs.YtlljkankongifaaDoor.Abs
open Go Go.RowKit
set_option linter.unusedVariables false
set_option linter.unusedSectionVars false
set_option linter.unusedSimpArgs false

/-- From the end down. -/
theorem down {P : Nat → Prop} {n : Nat} (h0 : P n) (hs : ∀ i, i < n → P (i + 1) → P i) : ∀ i, i ≤ n → P i := by
  have key : ∀ d i, n - i = d → i ≤ n → P i := by
    intro d
    induction d with
    | zero => intro i hd hi; obtain rfl : i = n := by omega
              exact h0
    | succ d ih => intro i hd hi; exact hs i (by omega) (ih (i + 1) (by omega) (by omega))
  exact fun i hi => key _ i rfl hi
theorem w64s {i : Nat} (h : i ≤ 4611686018427387904) : wrap64 ((i : Int) + 1) = ((i + 1 : Nat) : Int) := by
  rw [w64 (by omega) (by omega)]; omega
theorem rdg {α : Type} {d : α} {l : List α} {i : Nat} (h : i < l.length) : rdOf d l (i : Int) = l[i] := by
  simp [rdOf, List.getD_eq_getElem?_getD, List.getElem?_eq_getElem h]

/-- A list filled place by place. -/
theorem fill_ev {α : Type} {l : List α} {g : Nat → List α → Int → Option (List α)} (z : α)
    (hs : ∀ i (h : i < l.length) (out : List α), out.length = l.length → ∀ r, Ev (fun k => g k (out.set i l[i]) ((i + 1 : Nat) : Int)) r → Ev (fun k => g k out (i : Int)) r)
    (hf : ∀ out : List α, out.length = l.length → Ev (fun k => g k out (l.length : Int)) out) : Ev (fun k => g k (List.replicate l.length z) 0) l := by
  have key : ∀ i, i ≤ l.length → ∀ out : List α, out.length = l.length → (∀ j : Nat, j < i → out[j]? = l[j]?) → Ev (fun k => g k out (i : Int)) l := by
    refine down ?_ ?_
    · intro out ho ht
      have : out = l := List.ext_getElem? fun j => by
        by_cases h : j < l.length
        · exact ht j h
        · rw [List.getElem?_eq_none (by omega), List.getElem?_eq_none (by omega)]
      subst this
      exact hf out ho
    · intro i hi ih out ho ht
      refine hs i hi out ho l (ih _ (by rw [List.length_set]; exact ho) fun j hj => ?_)
      by_cases e : j = i
      · subst e; rw [List.getElem?_set_self (by omega), List.getElem?_eq_getElem hi]
      · rw [List.getElem?_set_ne (fun h => e h.symm)]; exact ht j (by omega)
  exact key 0 (Nat.zero_le _) _ (by simp) (fun j hj => by omega)

/-- A sum of non-negative parts, for the sizes of arguments. -/
theorem sz_loop {α : Type} {l : List α} {ok : α → Prop} {g : Nat → Int → Int → Option Int} (hl : l.length ≤ 4611686018427387904)
    (hs : ∀ i (h : i < l.length) (left : Int), 0 ≤ left → left ≤ 1048576 → (∃ r, r < 0 ∧ Ev (fun k => g k left (i : Int)) r) ∨ ∃ left', 0 ≤ left' ∧ left' ≤ left ∧ ok l[i] ∧ ∀ r, Ev (fun k => g k left' ((i + 1 : Nat) : Int)) r → Ev (fun k => g k left (i : Int)) r)
    (hf : ∀ left : Int, Ev (fun k => g k left (l.length : Int)) left) : ∀ left : Int, 0 ≤ left → left ≤ 1048576 → ∃ r, Ev (fun k => g k left 0) r ∧ (0 ≤ r → r ≤ left ∧ ∀ x ∈ l, ok x) := by
  have key : ∀ i, i ≤ l.length → ∀ left : Int, 0 ≤ left → left ≤ 1048576 → ∃ r, Ev (fun k => g k left (i : Int)) r ∧ (0 ≤ r → r ≤ left ∧ ∀ x ∈ l.drop i, ok x) := by
    refine down ?_ ?_
    · intro left h0 h1
      exact ⟨left, hf left, fun _ => ⟨Int.le_refl _, by simp⟩⟩
    · intro i hi ih left h0 h1
      rcases hs i hi left h0 h1 with ⟨r, hr, he⟩ | ⟨left', a0, a1, ho, hst⟩
      · exact ⟨r, he, fun h => by omega⟩
      · obtain ⟨r, he, hr⟩ := ih left' a0 (by omega)
        refine ⟨r, hst r he, fun h => ⟨by have := (hr h).1; omega, ?_⟩⟩
        rw [List.drop_eq_getElem_cons hi]
        intro x hx
        rcases List.mem_cons.1 hx with rfl | hx
        · exact ho
        · exact (hr h).2 x hx
  intro left h0 h1
  obtain ⟨r, he, hr⟩ := key 0 (Nat.zero_le _) left h0 h1
  exact ⟨r, he, by simpa using hr⟩

/-- The references among an object's values, from one on. -/
def refsB (p : Int → Bool) (t : ByteArray) : Nat → List Int → Bool
  | _, [] => true
  | i, v :: l => if bt t (i : Int) = 114 then p v && refsB p t (i + 1) l else refsB p t (i + 1) l
/-- isObject's loop, at any condition. -/
theorem refs_ev {types : List ByteArray} {vals : List Int} {tp : Int} {p : Int → Bool} {t : Nat → Int → Option Bool} {g : Nat → Int → Option Bool} (h0 : 0 ≤ tp) (h1 : tp < types.length) (hv : vals.length = (rdOf ByteArray.empty types tp).size) (hvl : vals.length ≤ 1099511627776)
    (hg : ∀ k (i : Int), g (k + 1) i = (if i < (vals.length : Int) then (if 0 ≤ i then (if i < (vals.length : Int) then (if 0 ≤ tp then (if tp < (types.length : Int) then (if 0 ≤ i then (if i < ((rdOf ByteArray.empty types tp).size : Int) then (if (byteAt (rdOf ByteArray.empty types tp) i) = 114 then ((t k (rd vals i)).bind fun t3 => (if t3 = true then (g k (wrap64 (i + 1))) else (some false))) else (g k (wrap64 (i + 1)))) else none) else none) else none) else none) else none) else none) else (some true)))
    (ht : ∀ x ∈ vals, Ev (fun k => t k x) (p x)) : Ev (fun k => g k 0) (refsB p (rdOf ByteArray.empty types tp) 0 vals) := by
  have key : ∀ i, i ≤ vals.length → Ev (fun k => g k (i : Int)) (refsB p (rdOf ByteArray.empty types tp) i (vals.drop i)) := by
    refine down ?_ ?_
    · rw [List.drop_eq_nil_of_le (Nat.le_refl _)]
      refine Ev.step (fun k => hg k _) ?_
      exact Ev.neg (by omega) (Ev.eq rfl)
    · intro i hi ih
      refine Ev.step (fun k => hg k _) ?_
      rw [rd_get hi, w64s (by omega), List.drop_eq_getElem_cons hi, refsB]
      refine Ev.pos (by omega) (Ev.pos (by omega) (Ev.pos (by omega) (Ev.pos h0 (Ev.pos h1 (Ev.pos (by omega) (Ev.pos (by omega) ?_))))))
      by_cases c : bt (rdOf ByteArray.empty types tp) (i : Int) = 114
      · rw [if_pos c]
        refine Ev.pos c (Ev.bind (ht _ (List.getElem_mem hi)) (Ev.cases (fun c2 => ?_) (fun c2 => ?_)))
        · rw [c2, Bool.true_and]; exact ih
        · rw [Bool.eq_false_iff.2 c2, Bool.false_and]; exact Ev.eq rfl
      · rw [if_neg c]
        exact Ev.neg c ih
  have h := key 0 (Nat.zero_le _)
  rw [List.drop_zero] at h
  exact h
/-- The same answer from every place on. -/
theorem each_ev {β : Type} {n : Nat} {g : Nat → Int → Option β} {r : β} (hs : ∀ i, i < n → Ev (fun k => g k ((i + 1 : Nat) : Int)) r → Ev (fun k => g k (i : Int)) r) (hf : Ev (fun k => g k (n : Int)) r) : Ev (fun k => g k 0) r :=
  down (P := fun i => Ev (fun k => g k (i : Int)) r) hf hs 0 (Nat.zero_le _)
/-- A condition asked of all elements in order. -/
theorem all_ev {α : Type} {l : List α} {p : α → Bool} {g : Nat → Int → Option Bool}
    (hs : ∀ i (h : i < l.length), (p l[i] = true → ∀ r, Ev (fun k => g k ((i + 1 : Nat) : Int)) r → Ev (fun k => g k (i : Int)) r) ∧ (p l[i] = false → Ev (fun k => g k (i : Int)) false))
    (b : Bool) (hf : Ev (fun k => g k (l.length : Int)) b) : Ev (fun k => g k 0) (l.all p && b) := by
  have key : ∀ i, i ≤ l.length → Ev (fun k => g k (i : Int)) ((l.drop i).all p && b) := by
    refine down ?_ ?_
    · rw [List.drop_eq_nil_of_le (Nat.le_refl _)]
      simpa using hf
    · intro i hi ih
      rw [List.drop_eq_getElem_cons hi, List.all_cons]
      cases c : p l[i] with
      | true => rw [Bool.true_and]; exact (hs i hi).1 c _ ih
      | false => rw [Bool.false_and, Bool.false_and]; exact (hs i hi).2 c
  have h := key 0 (Nat.zero_le _)
  rw [List.drop_zero] at h
  exact h
end Go.Proofs.YtlljkankongifaaDoor.Abs
namespace Go.Proofs.YtlljkankongifaaDoor.Abs
open Go Go.RowKit
set_option linter.unusedVariables false
set_option linter.unusedSectionVars false
set_option linter.unusedSimpArgs false
theorem l1In_f (a lo hi : Int) : spec_l1In.f a lo hi = some (decide (lo ≤ a) && decide (a ≤ hi)) := by
  unfold spec_l1In.f
  split
  · rename_i h; simp [show lo ≤ a from h]
  · rename_i h; have : ¬ lo ≤ a := h; simp [this]
theorem within_f (a lo hi : Int) : impl_within.f a lo hi = some (decide (lo ≤ a) && decide (a ≤ hi)) := by
  unfold impl_within.f
  split
  · rename_i h; simp [show lo ≤ a from h]
  · rename_i h; have : ¬ lo ≤ a := h; simp [this]
end Go.Proofs.YtlljkankongifaaDoor.Abs
namespace Go.Proofs.YtlljkankongifaaDoor.Abs.Pu
open Go Go.RowKit
set_option linter.unusedVariables false
set_option linter.unusedSectionVars false
set_option linter.unusedSimpArgs false
theorem wrap_u8 (x : Int) : IntKind.u8.wrap x = x % 256 := by simp [IntKind.wrap, IntKind.bits, IntKind.signed]
theorem shl1_u8 (r : Nat) (hr : r < 8) : shlA .u8 1 (r : Int) = 2 ^ r % 256 := by
  unfold shlA
  rw [Int.toNat_natCast, wrap_u8]
  rw [show min r IntKind.u8.bits = r from Nat.min_eq_left (by show r ≤ 8; omega)]
  simp
theorem shr_u8 (x : Int) (r : Nat) (hr : r < 8) : shrA .u8 x (r : Int) = x / 2 ^ r := by
  unfold shrA
  rw [Int.toNat_natCast, show min r IntKind.u8.bits = r from Nat.min_eq_left (by show r ≤ 8; omega)]
theorem bit_read (s : ByteArray) (n : Nat) : decide (andA .u8 (shrA .u8 (bt s ((n / 8 : Nat) : Int)) ((n % 8 : Nat) : Int)) 1 = 1) = tkn s (n : Int) := by
  have hb := bt_range s ((n / 8 : Nat) : Int)
  have hd := div_range hb.1 hb.2 (n % 8)
  rw [shr_u8 _ _ (by omega), andA_eq, and_one hd.1 hd.2, bt_bytesOf]
  unfold tkn bitL bitv
  rw [Int.toNat_natCast]
  rfl
theorem impl_isMap_f (s : ByteArray) : impl_isMap.f s = some (decide (mapOk s)) := by
  unfold impl_isMap.f mapOk
  have z := impl_zeros_f 48 (by omega)
  by_cases h : s.size = 64
  · rw [if_pos (by omega), if_pos (by omega), show (48 : Int) = ((48 : Nat) : Int) from rfl, z]
    simp only [Option.bind_some, toList_inj, Int.toNat_natCast]
    exact congrArg some (decide_eq_decide.2 ⟨fun e => ⟨h, e⟩, fun e => e.2⟩)
  · rw [if_neg (by omega)]
    exact congrArg some (decide_eq_false (fun e => h e.1)).symm
theorem idx8 (n : Nat) (hn : n ≤ 1099511627776) : wrap64 (Int.tdiv (n : Int) 8) = ((n / 8 : Nat) : Int) ∧ Int.tmod (n : Int) 8 = ((n % 8 : Nat) : Int) := by
  rw [Int.tdiv_eq_ediv_of_nonneg (by omega), Int.tmod_eq_emod_of_nonneg (by omega), w64 (by omega) (by omega)]
  omega
theorem impl_isTaken_f (s : ByteArray) (n : Nat) (h : n / 8 < s.size) (hn : n ≤ 1099511627776) : impl_isTaken.f s (n : Int) = some (tkn s (n : Int)) := by
  unfold impl_isTaken.f
  rw [(idx8 n hn).1, (idx8 n hn).2, if_pos (by omega), if_pos (by omega), if_neg (by omega), byteAt_eq, bit_read]
theorem changedMap_ev (s : ByteArray) (x y : Nat) (h : x + y ≤ 8 * s.size) (hs : s.size ≤ 1048576) : Ev (fun k => impl_changedMap.f k s (x : Int) (y : Int) true) (changed s true x y) := by
  have key : ∀ j, j ≤ y → Ev (fun k => impl_changedMap.p8 k (x : Int) (y : Int) true (changeL (bytesOf s) x true j) ((x + j : Nat) : Int)) (changed s true x y) := by
    refine down ?_ ?_
    · refine Ev.step (fun k => by rw [impl_changedMap.p8]) ?_
      rw [w64 (x := (x : Int) + (y : Int)) (by omega) (by omega)]
      exact Ev.neg (by omega) (Ev.eq rfl)
    · intro j hj ih
      have hl : (changeL (bytesOf s) x true j).length = s.size := by rw [changeL_length, bytesOf_length]
      have hc : changeL (bytesOf s) x true (j + 1) = change1 (changeL (bytesOf s) x true j) (x + j) true := rfl
      rw [hc] at ih
      generalize changeL (bytesOf s) x true j = xs at *
      unfold change1 at ih
      rw [if_pos rfl] at ih
      refine Ev.step (fun k => by rw [impl_changedMap.p8]) ?_
      rw [w64 (x := (x : Int) + (y : Int)) (by omega) (by omega), (idx8 (x + j) (by omega)).1, (idx8 (x + j) (by omega)).2, Int.toNat_natCast, shl1_u8 _ (by omega), andNotA_eq, orA_eq, rd_eq, rd_eq]
      have hg : (xs.set ((x + j) / 8) (Go.bits .andNot .u8 (xs.getD ((x + j) / 8) 0) (2 ^ ((x + j) % 8) % 256))).getD ((x + j) / 8) 0 = Go.bits .andNot .u8 (xs.getD ((x + j) / 8) 0) (2 ^ ((x + j) % 8) % 256) := by
        rw [List.getD_eq_getElem?_getD, List.getElem?_set_self (by omega)]; rfl
      rw [hg]
      have hl2 : (xs.set ((x + j) / 8) (Go.bits .andNot .u8 (xs.getD ((x + j) / 8) 0) (2 ^ ((x + j) % 8) % 256))).length = s.size := by rw [List.length_set]; exact hl
      refine Ev.pos (by omega) (Ev.pos (by omega) (Ev.pos (by omega) (Ev.neg (by omega) (Ev.pos (by omega) (Ev.pos (by omega) (Ev.pos rfl (Ev.pos (by omega) (Ev.pos (by rw [hl2]; omega) (Ev.neg (by omega) (Ev.pos (by omega) (Ev.pos (by rw [hl2]; omega) ?_)))))))))))
      refine Ev.step (fun k => by rw [impl_changedMap.p24]) ?_
      rw [w64s (i := x + j) (by omega)]
      exact ih
  unfold impl_changedMap.f
  exact key 0 (Nat.zero_le _)
theorem impl_isRun_ev (s : ByteArray) (a n : Int) : Ev (fun k => impl_isRun.f k s a n false) (decide (runOk s a n ∧ ∀ j : Nat, a.toNat ≤ j → j < a.toNat + n.toNat → bitL (bytesOf s) j = false)) := by
  unfold impl_isRun.f
  refine Ev.bindo (impl_isMap_f s) (Ev.cases (fun c => ?_) (fun c => Ev.eq (decide_eq_false (fun h => c (decide_eq_true h.1.1))).symm))
  have c : mapOk s := of_decide_eq_true c
  refine Ev.bindo (within_f _ _ _) (Ev.cases (fun c2 => ?_) (fun c2 => Ev.eq (decide_eq_false (fun h => c2 (by simp; exact h.1.2.1))).symm))
  simp only [Bool.and_eq_true, decide_eq_true_eq] at c2
  rw [w64 (x := 128 - n) (by omega) (by omega)]
  refine Ev.bindo (within_f _ _ _) (Ev.cases (fun c3 => ?_) (fun c3 => Ev.eq (decide_eq_false (fun h => c3 (by simp; exact h.1.2.2))).symm))
  simp only [Bool.and_eq_true, decide_eq_true_eq] at c3
  have h64 := c.1
  have hrun : runOk s a n := ⟨c, c2, c3.1, c3.2⟩
  obtain ⟨x, rfl⟩ := Int.eq_ofNat_of_zero_le c3.1
  obtain ⟨y, rfl⟩ := Int.eq_ofNat_of_zero_le (show 0 ≤ n by omega)
  rw [Int.toNat_natCast, Int.toNat_natCast]
  have key : ∀ j, j ≤ y → (∀ q : Nat, x ≤ q → q < x + j → bitL (bytesOf s) q = false) → Ev (fun k => impl_isRun.p14 k s (x : Int) (y : Int) false ((x + j : Nat) : Int)) (decide (runOk s (x : Int) (y : Int) ∧ ∀ j : Nat, x ≤ j → j < x + y → bitL (bytesOf s) j = false)) := by
    refine down ?_ ?_
    · intro hf
      refine Ev.step (fun k => by rw [impl_isRun.p14]) ?_
      rw [w64 (x := (x : Int) + (y : Int)) (by omega) (by omega)]
      exact Ev.neg (by omega) (Ev.eq (decide_eq_true ⟨hrun, hf⟩).symm)
    · intro j hj ih hf
      refine Ev.step (fun k => by rw [impl_isRun.p14]) ?_
      rw [w64 (x := (x : Int) + (y : Int)) (by omega) (by omega), w64s (i := x + j) (by omega)]
      refine Ev.pos (by omega) (Ev.bindo (impl_isTaken_f s (x + j) (by omega) (by omega)) ?_)
      have ht : tkn s ((x + j : Nat) : Int) = bitL (bytesOf s) (x + j) := by unfold tkn; rw [Int.toNat_natCast]
      refine Ev.cases (fun e => ?_) (fun e => Ev.eq (decide_eq_false (fun h => e ?_)).symm)
      · refine ih (fun q h0 h1 => ?_)
        by_cases e2 : q = x + j
        · subst e2; rw [← ht]; exact e
        · exact hf q h0 (by omega)
      · rw [ht]
        exact h.2 (x + j) (by omega) (by omega)
  exact key 0 (Nat.zero_le _) (fun q h0 h1 => by omega)
theorem impl_TakeRun_ev (s : ByteArray) (a n : Int) : Ev (fun k => impl_TakeRun.f k s a n) (runResult s true a n) := by
  unfold impl_TakeRun.f runResult
  simp only [Bool.not_true]
  refine Ev.bind (impl_isRun_ev s a n) (Ev.cases (fun c => ?_) (fun c => Ev.eq ?_))
  · obtain ⟨c, hb⟩ := of_decide_eq_true c
    rw [if_pos c, if_pos hb]
    obtain ⟨hm, ⟨h1, h2⟩, h3, h4⟩ := c
    have h64 := hm.1
    obtain ⟨x, rfl⟩ := Int.eq_ofNat_of_zero_le h3
    obtain ⟨y, rfl⟩ := Int.eq_ofNat_of_zero_le (show 0 ≤ n by omega)
    exact Ev.bind (changedMap_ev s x y (by omega) (by omega)) (Ev.eq rfl)
  · by_cases e : runOk s a n
    · rw [if_pos e, if_neg (fun h => c (decide_eq_true ⟨e, h⟩))]
    · rw [if_neg e]
theorem l6Turn_ev (s : ByteArray) (x y : Nat) (h : x + y ≤ 8 * s.size) (hs : s.size ≤ 1048576) : Ev (fun k => spec_l6Turn.f k s (x : Int) (y : Int)) (strOfNums (turnL (bytesOf s) x y)) := by
  have key : ∀ j, j ≤ y → Ev (fun k => spec_l6Turn.p8 k (x : Int) (y : Int) (turnL (bytesOf s) x j) ((x + j : Nat) : Int)) (strOfNums (turnL (bytesOf s) x y)) := by
    refine down ?_ ?_
    · refine Ev.step (fun k => by rw [spec_l6Turn.p8]) ?_
      rw [w64 (x := (x : Int) + (y : Int)) (by omega) (by omega)]
      exact Ev.neg (by omega) (Ev.eq rfl)
    · intro j hj ih
      have hl : (turnL (bytesOf s) x j).length = s.size := by rw [turnL_length, bytesOf_length]
      have hc : turnL (bytesOf s) x (j + 1) = turn1 (turnL (bytesOf s) x j) (x + j) := rfl
      rw [hc] at ih
      generalize turnL (bytesOf s) x j = xs at *
      unfold turn1 at ih
      refine Ev.step (fun k => by rw [spec_l6Turn.p8]) ?_
      have hu : IntKind.u64.wrap (((x + j) % 8 : Nat) : Int) = (((x + j) % 8 : Nat) : Int) := by simp [IntKind.wrap, IntKind.bits, IntKind.signed]; omega
      rw [w64 (x := (x : Int) + (y : Int)) (by omega) (by omega), (idx8 (x + j) (by omega)).1, (idx8 (x + j) (by omega)).2, hu, Int.toNat_natCast, shl1_u8 _ (by omega), xorA_eq, rd_eq, w64s (i := x + j) (by omega)]
      exact Ev.pos (by omega) (Ev.pos (by omega) (Ev.pos (by omega) (Ev.neg (by omega) (Ev.pos (by omega) (Ev.pos (by omega) ih)))))
  unfold spec_l6Turn.f
  exact key 0 (Nat.zero_le _)
end Go.Proofs.YtlljkankongifaaDoor.Abs.Pu
namespace Go.Proofs.YtlljkankongifaaDoor.Abs.Pu
open Go Go.RowKit
set_option linter.unusedVariables false
set_option linter.unusedSectionVars false
set_option linter.unusedSimpArgs false
theorem spec_l6Map_f (s : ByteArray) : spec_l6Map.f s = some (decide (mapOk s)) := by
  unfold spec_l6Map.f mapOk
  have z := spec_l1Zeros_f 48 (by omega)
  by_cases h : s.size = 64
  · rw [if_pos (by omega), if_pos (by omega), show (48 : Int) = ((48 : Nat) : Int) from rfl, z]
    simp only [Option.bind_some, toList_inj, Int.toNat_natCast]
    exact congrArg some (decide_eq_decide.2 ⟨fun e => ⟨h, e⟩, fun e => e.2⟩)
  · rw [if_neg (by omega)]
    exact congrArg some (decide_eq_false (fun e => h e.1)).symm
theorem spec_l6Bit_f (s : ByteArray) (n : Nat) (h : n / 8 < s.size) (hn : n ≤ 1099511627776) : spec_l6Bit.f s (n : Int) = some (tkn s (n : Int)) := by
  unfold spec_l6Bit.f
  have hu : IntKind.u64.wrap ((n % 8 : Nat) : Int) = ((n % 8 : Nat) : Int) := by simp [IntKind.wrap, IntKind.bits, IntKind.signed]; omega
  rw [(idx8 n hn).1, (idx8 n hn).2, hu, if_pos (by omega), if_pos (by omega), if_neg (by omega), byteAt_eq, bit_read]
theorem impl_bit (s : ByteArray) (n : Int) (hs : mapOk s) (h0 : 0 ≤ n) (h1 : n < 128) : impl_isTaken.f s n = some (tkn s n) := by
  obtain ⟨m, rfl⟩ := Int.eq_ofNat_of_zero_le h0
  exact impl_isTaken_f s m (by have := hs.1; omega) (by omega)
theorem spec_bit (s : ByteArray) (n : Int) (hs : mapOk s) (h0 : 0 ≤ n) (h1 : n < 128) : spec_l6Bit.f s n = some (tkn s n) := by
  obtain ⟨m, rfl⟩ := Int.eq_ofNat_of_zero_le h0
  exact spec_l6Bit_f s m (by have := hs.1; omega) (by omega)
theorem area_f (s : ByteArray) (a b : Int) : ((some (decide (mapOk s))).bind fun t1 => (if t1 = true then (if a ≥ 0 then (if a ≤ b then (some (decide (b ≤ 128))) else (some false)) else (some false)) else (some false))) = some (decide (areaOk s a b)) := by
  unfold areaOk
  rw [Option.bind_some]
  by_cases c : mapOk s
  · simp only [c, decide_true, if_true, true_and]
    by_cases h1 : a ≥ 0
    · by_cases h2 : a ≤ b
      · simp [h1, h2]
      · simp [h1, h2]
    · simp [h1]
  · simp [c]
theorem impl_isArea_f (s : ByteArray) (a b : Int) : impl_isArea.f s a b = some (decide (areaOk s a b)) := by
  unfold impl_isArea.f
  rw [impl_isMap_f]
  exact area_f s a b
theorem spec_l6Range_f (s : ByteArray) (a b : Int) : spec_l6Range.f s a b = some (decide (areaOk s a b)) := by
  unfold spec_l6Range.f
  rw [spec_l6Map_f]
  exact area_f s a b
theorem rdP_last (g : List (Int × Int)) (h : 1 ≤ g.length) : rdOf (0, 0) g ((g.length : Int) - 1) = g.getD (g.length - 1) (0, 0) := by
  unfold rdOf
  rw [show ((g.length : Int) - 1).toNat = g.length - 1 from by omega]
theorem impl_gaps_ev (s : ByteArray) (a b : Int) (hm : mapOk s) (h0 : 0 ≤ a) (h1 : a ≤ b) (h2 : b ≤ 128) : Ev (fun k => impl_gaps.f k s a b) (gapsOf s a b) := by
  have l : ∀ (d : Nat) (i : Int) (g : List (Int × Int)), (b - i).toNat = d → a ≤ i → i ≤ b → Gap (tkn s) a i g → Ev (fun k => impl_gaps.p8 k s b g i) (gapsGo (tkn s) d g i) := by
    intro d
    induction d with
    | zero =>
      intro i g hd hi hb hg
      refine Ev.step (fun k => by rw [impl_gaps.p8]) ?_
      exact Ev.neg (by omega) (Ev.eq rfl)
    | succ d ih =>
      intro i g hd hi hb hg
      have hl := hg.length hi
      refine Ev.step (fun k => by rw [impl_gaps.p8]) ?_
      refine Ev.pos (by omega) (Ev.bindo (impl_bit s i hm (by omega) (by omega)) ?_)
      rw [gapsGo]
      by_cases e : tkn s i = true
      · rw [if_pos e, w64 (x := i + 1) (by omega) (by omega)]
        exact Ev.pos e (ih (i + 1) g (by omega) (by omega) (by omega) (hg.taken e))
      · rw [if_neg e]
        have e' : tkn s i = false := by simpa using e
        have nxt := ih (i + 1) _ (by omega) (by omega) (by omega) (hg.add hi e')
        rw [w64 (x := (g.length : Int) - 1) (by omega) (by omega)]
        refine Ev.neg e ?_
        by_cases c1 : 1 ≤ g.length
        · rw [rdP_last g c1]
          have hx : a ≤ (g.getD (g.length - 1) (0, 0)).1 ∧ 1 ≤ (g.getD (g.length - 1) (0, 0)).2 ∧ (g.getD (g.length - 1) (0, 0)).1 + (g.getD (g.length - 1) (0, 0)).2 ≤ i := by
            rcases snoc_cases g with rfl | ⟨l, x, rfl⟩
            · simp at c1
            · rw [getD_snoc]
              exact hg.each x (by simp)
          have hR := rdP_last g c1
          unfold addGap at nxt ⊢
          generalize g.getD (g.length - 1) (0, 0) = L at *
          rw [w64 (x := L.1 + L.2) (by omega) (by omega)]
          refine Ev.pos (by omega) (Ev.pos (by omega) (Ev.pos (by omega) (Ev.pos (by omega) (Ev.pos (by omega) ?_))))
          by_cases c2 : L.1 + L.2 = i
          · rw [if_pos ⟨c1, c2⟩] at nxt ⊢
            rw [decide_eq_true c2]
            refine Ev.step (fun k => by rw [impl_gaps.p27]) ?_
            rw [hR, w64 (x := i + 1) (by omega) (by omega), w64 (x := L.2 + 1) (by omega) (by omega), show ((g.length : Int) - 1).toNat = g.length - 1 from by omega]
            exact Ev.pos rfl (Ev.pos (by omega) (Ev.pos (by omega) (Ev.pos (by omega) (Ev.pos (by omega) nxt))))
          · rw [if_neg (fun h => c2 h.2)] at nxt ⊢
            rw [decide_eq_false c2]
            refine Ev.step (fun k => by rw [impl_gaps.p27]) ?_
            rw [w64 (x := i + 1) (by omega) (by omega)]
            exact Ev.neg (by simp) (Ev.pos (by omega) nxt)
        · unfold addGap at nxt ⊢
          rw [if_neg (fun h => c1 h.1)] at nxt ⊢
          refine Ev.neg (by omega) (Ev.step (fun k => by rw [impl_gaps.p27]) ?_)
          rw [w64 (x := i + 1) (by omega) (by omega)]
          exact Ev.neg (by simp) (Ev.pos (by omega) nxt)
  unfold impl_gaps.f
  exact l _ a [] rfl (by omega) h1 (Gap.nil _ a)
theorem impl_FindRun_ev (s : ByteArray) (a b n : Int) : Ev (fun k => impl_FindRun.f k s a b n) (findRun s a b n) := by
  unfold impl_FindRun.f findRun
  refine Ev.bindo (impl_isArea_f s a b) (Ev.cases (fun c => ?_) (fun c => by rw [if_neg (fun h => c (decide_eq_true h))]; exact Ev.eq rfl))
  have c : areaOk s a b := of_decide_eq_true c
  rw [if_pos c]
  refine Ev.bindo (within_f _ _ _) (Ev.cases (fun c2 => ?_) (fun c2 => by rw [if_neg (fun h => c2 (by simp; exact h))]; exact Ev.eq rfl))
  simp only [Bool.and_eq_true, decide_eq_true_eq] at c2
  rw [if_pos c2]
  have hg := gapsOf_gap s a b c.2.2.1
  have hgl := hg.length c.2.2.1
  obtain ⟨hm, h0, h1, h2⟩ := c
  refine Ev.bind (impl_gaps_ev s a b hm h0 h1 h2) ?_
  have key : ∀ i, i ≤ (gapsOf s a b).length → Ev (fun k => impl_FindRun.p14 k n (gapsOf s a b) ((gapsOf s a b).length : Int) (i : Int)) (firstGap ((gapsOf s a b).drop i) n) := by
    generalize gapsOf s a b = G at *
    refine down ?_ ?_
    · refine Ev.step (fun k => by rw [impl_FindRun.p14]) ?_
      rw [List.drop_eq_nil_of_le (Nat.le_refl _)]
      exact Ev.neg (by omega) (Ev.eq rfl)
    · intro i hi ih
      refine Ev.step (fun k => by rw [impl_FindRun.p14]) ?_
      have hgi : rdOf (0, 0) G (i : Int) = G[i] := rdg hi
      rw [hgi, w64s (i := i) (by omega), List.drop_eq_getElem_cons hi, firstGap]
      refine Ev.pos (by omega) (Ev.pos (by omega) (Ev.pos (by omega) ?_))
      by_cases c3 : G[i].2 ≥ n
      · rw [if_pos c3]; exact Ev.pos c3 (Ev.eq rfl)
      · rw [if_neg c3]; exact Ev.neg c3 ih
  have := key 0 (Nat.zero_le _)
  rw [List.drop_zero] at this
  exact this
theorem spec_l6Free_ev (s : ByteArray) (i n : Int) (hm : mapOk s) (h0 : 0 ≤ i) (hn : 0 ≤ n) (h2 : i + n ≤ 128) : ∃ b : Bool, Ev (fun k => spec_l6Free.f k s i n) b ∧ (b = true ↔ allFree (tkn s) i n) := by
  have l : ∀ (d : Nat) (j : Int), (i + n - j).toNat = d → i ≤ j → j ≤ i + n → (∀ q, i ≤ q → q < j → tkn s q = false) → ∃ b : Bool, Ev (fun k => spec_l6Free.p6 k s i n j) b ∧ (b = true ↔ allFree (tkn s) i n) := by
    intro d
    induction d with
    | zero =>
      intro j hd hj hj2 hf
      refine ⟨true, Ev.step (fun k => by rw [spec_l6Free.p6]) ?_, fun _ q a0 a1 => hf q a0 (by omega), fun _ => rfl⟩
      rw [w64 (x := i + n) (by omega) (by omega)]
      exact Ev.neg (by omega) (Ev.eq rfl)
    | succ d ih =>
      intro j hd hj hj2 hf
      by_cases e : tkn s j = true
      · refine ⟨false, Ev.step (fun k => by rw [spec_l6Free.p6]) ?_, fun h => (by cases h), fun h => ?_⟩
        · rw [w64 (x := i + n) (by omega) (by omega)]
          exact Ev.pos (by omega) (Ev.bindo (spec_bit s j hm (by omega) (by omega)) (Ev.pos e (Ev.eq rfl)))
        · rw [h j hj (by omega)] at e
          cases e
      · obtain ⟨b, hb, hi⟩ := ih (j + 1) (by omega) (by omega) (by omega) (fun q a0 a1 => by
          by_cases e2 : q = j
          · rw [e2]; simpa using e
          · exact hf q a0 (by omega))
        refine ⟨b, Ev.step (fun k => by rw [spec_l6Free.p6]) ?_, hi⟩
        rw [w64 (x := i + n) (by omega) (by omega), w64 (x := j + 1) (by omega) (by omega)]
        exact Ev.pos (by omega) (Ev.bindo (spec_bit s j hm (by omega) (by omega)) (Ev.neg e hb))
  unfold spec_l6Free.f
  exact l _ i rfl (by omega) (by omega) (fun q a0 a1 => by omega)
theorem findRun_first {s : ByteArray} {a b n : Int} (c : areaOk s a b) (c2 : 1 ≤ n ∧ n ≤ 128) : IsFirst (tkn s) a b n (findRun s a b n) := by
  unfold findRun
  rw [if_pos c, if_pos c2]
  exact firstGap_isFirst c2.1 (gapsOf_gap s a b c.2.2.1)
theorem spec_FindRun_ev (s : ByteArray) (a b n : Int) : Ev (fun k => spec_FindRun.f k s a b n) (findRun s a b n) := by
  unfold spec_FindRun.f
  have no : ¬ (areaOk s a b ∧ 1 ≤ n ∧ n ≤ 128) → findRun s a b n = -1 := fun h => by
    unfold findRun
    split
    · split
      · exact absurd ⟨by assumption, by assumption⟩ h
      · rfl
    · rfl
  refine Ev.bindo (spec_l6Range_f s a b) (Ev.cases (fun c => ?_) (fun c => by rw [no (fun h => c (decide_eq_true h.1))]; exact Ev.eq rfl))
  have c : areaOk s a b := of_decide_eq_true c
  refine Ev.bindo (l1In_f _ _ _) (Ev.cases (fun c2 => ?_) (fun c2 => by rw [no (fun h => c2 (by simp; exact h.2))]; exact Ev.eq rfl))
  simp only [Bool.and_eq_true, decide_eq_true_eq] at c2
  have hF := findRun_first c c2
  obtain ⟨hm, h0, h1, h2⟩ := c
  have l : ∀ (d : Nat) (i : Int), (b - i).toNat = d → a ≤ i → i ≤ b → (∀ y, a ≤ y → y < i → ¬ allFree (tkn s) y n) → ∃ r, Ev (fun k => spec_FindRun.p14 k s b n i) r ∧ IsFirst (tkn s) a b n r := by
    intro d
    induction d with
    | zero =>
      intro i hd hi hb hf
      refine ⟨-1, Ev.step (fun k => by rw [spec_FindRun.p14]) ?_, .inl ⟨rfl, fun y a0 a1 => hf y a0 (by omega)⟩⟩
      rw [w64 (x := i + n) (by omega) (by omega)]
      exact Ev.neg (by omega) (Ev.eq rfl)
    | succ d ih =>
      intro i hd hi hb hf
      by_cases c3 : i + n ≤ b
      · obtain ⟨q, hq, hqf⟩ := spec_l6Free_ev s i n hm (by omega) (by omega) (by omega)
        by_cases e : q = true
        · refine ⟨i, Ev.step (fun k => by rw [spec_FindRun.p14]) ?_, .inr ⟨hi, c3, hqf.1 e, hf⟩⟩
          rw [w64 (x := i + n) (by omega) (by omega)]
          exact Ev.pos c3 (Ev.bind hq (Ev.pos e (Ev.eq rfl)))
        · obtain ⟨r, hr, hF⟩ := ih (i + 1) (by omega) (by omega) (by omega) (fun y a0 a1 => by
            by_cases e2 : y = i
            · rw [e2]; exact fun h => e (hqf.2 h)
            · exact hf y a0 (by omega))
          refine ⟨r, Ev.step (fun k => by rw [spec_FindRun.p14]) ?_, hF⟩
          rw [w64 (x := i + n) (by omega) (by omega), w64 (x := i + 1) (by omega) (by omega)]
          exact Ev.pos c3 (Ev.bind hq (Ev.neg e hr))
      · refine ⟨-1, Ev.step (fun k => by rw [spec_FindRun.p14]) ?_, .inl ⟨rfl, fun y a0 a1 => hf y a0 (by omega)⟩⟩
        rw [w64 (x := i + n) (by omega) (by omega)]
        exact Ev.neg (by omega) (Ev.eq rfl)
  obtain ⟨r, hr, hF2⟩ := l _ a rfl (by omega) h1 (fun y a0 a1 => by omega)
  rw [IsFirst.unique h0 hF hF2]
  exact hr
end Go.Proofs.YtlljkankongifaaDoor.Abs.Pu
namespace Go.Proofs.YtlljkankongifaaDoor.Abs
open Go Go.RowKit
set_option linter.unusedVariables false
set_option linter.unusedSectionVars false
set_option linter.unusedSimpArgs false

theorem or_low (a b : Nat) (ha : a % 256 = 0) (hb : b < 256) : a ||| b = a + b := by
  have hq : a = 2 ^ 8 * (a / 2 ^ 8) := by
    have := Nat.div_add_mod a (2 ^ 8)
    omega
  rw [hq, ← Nat.two_pow_add_eq_or_of_lt (by simpa using hb) (a / 2 ^ 8)]
theorem or8_u64 (x y : Int) (h0 : 0 ≤ x) (h1 : x < 18446744073709551616) (hx : x % 256 = 0) (hy : 0 ≤ y) (hy1 : y < 256) : Go.bits .or .u64 x y = x + y := by
  unfold Go.bits
  simp only [BitVec.toNat_or, BitVec.toNat_ofInt]
  rw [show IntKind.u64.bits = 64 from rfl, or_low _ _ (by omega) (by omega)]
  simp only [IntKind.wrap, IntKind.bits, IntKind.signed]
  simp
  omega
theorem or8_i64 (x y : Int) (h0 : -9223372036854775808 ≤ x) (h1 : x ≤ 9223372036854775807) (hx : x % 256 = 0) (hy : 0 ≤ y) (hy1 : y < 256) : Go.bits .or .i64 x y = x + y := by
  unfold Go.bits
  simp only [BitVec.toNat_or, BitVec.toNat_ofInt]
  rw [show IntKind.i64.bits = 64 from rfl, or_low _ _ (by omega) (by omega)]
  rw [IntKind.wrap_i64]
  omega

/-- The value of the first n bytes, the highest one first. -/
def be (f : Nat → Int) : Nat → Int
  | 0 => 0
  | n + 1 => be f n * 256 + f n
theorem be_range (f : Nat → Int) (hf : ∀ i, 0 ≤ f i ∧ f i ≤ 255) : ∀ n, 0 ≤ be f n ∧ be f n < 256 ^ n
  | 0 => by simp [be]
  | n + 1 => by
    have h := be_range f hf n
    have h2 := hf n
    simp only [be, Int.pow_succ]
    omega
theorem be_congr {f g : Nat → Int} (n : Nat) (h : ∀ i, i < n → f i = g i) : be f n = be g n := by
  induction n with
  | zero => rfl
  | succ n ih => simp only [be]; rw [ih (fun i hi => h i (by omega)), h n (by omega)]
theorem wrap64_mod (x y : Int) (h : x % 18446744073709551616 = y % 18446744073709551616) : wrap64 x = wrap64 y := by
  unfold wrap64
  omega
/-- The int64 in the eight bytes from place p on. -/
def wordv (s : ByteArray) (p : Nat) : Int := wrap64 (be (fun i => bt s ((p + i : Nat) : Int)) 8)
theorem bt_extract (s : ByteArray) (a b i : Nat) (h : a + i < b) (hb : b ≤ s.size) : bt (s.extract a b) (i : Int) = bt s ((a + i : Nat) : Int) := by
  have h1 : i < (s.extract a b).size := by rw [ByteArray.size_extract]; omega
  have h2 : a + i < s.size := by omega
  rw [← bt_at _ _ (by rw [Int.toNat_natCast]; exact h1), ← bt_at _ _ (by rw [Int.toNat_natCast]; exact h2)]
  simp only [Int.toNat_natCast]
  rw [ByteArray.getElem_extract]
/-- A step of reading: shifted by a byte, the next one laid in. -/
theorem be_step_u64 (f : Nat → Int) (hf : ∀ i, 0 ≤ f i ∧ f i ≤ 255) (n : Nat) (hn : n < 8) : Go.bits .or .u64 (IntKind.u64.wrap (be f n * 256)) (IntKind.u64.wrap (f n)) = be f (n + 1) := by
  have hr := be_range f hf n
  have h2 := hf n
  have h3 : (256 : Int) ^ n ≤ 256 ^ 7 := by
    obtain rfl | rfl | rfl | rfl | rfl | rfl | rfl | rfl : n = 0 ∨ n = 1 ∨ n = 2 ∨ n = 3 ∨ n = 4 ∨ n = 5 ∨ n = 6 ∨ n = 7 := by omega
    all_goals decide
  have h4 : be f n < 72057594037927936 := by have : (256 : Int) ^ 7 = 72057594037927936 := by decide
                                             omega
  have hw : ∀ x : Int, 0 ≤ x → x < 18446744073709551616 → IntKind.u64.wrap x = x := by
    intro x hx0 hx1
    simp [IntKind.wrap, IntKind.bits, IntKind.signed]
    omega
  rw [hw _ (by omega) (by omega), hw _ (by omega) (by omega), or8_u64 _ _ (by omega) (by omega) (by omega) h2.1 (by omega)]
  rfl
theorem be_step_i64 (f : Nat → Int) (hf : ∀ i, 0 ≤ f i ∧ f i ≤ 255) (n : Nat) : Go.bits .or .i64 (wrap64 (wrap64 (be f n) * 256)) (wrap64 (f n)) = wrap64 (be f (n + 1)) := by
  have h2 := hf n
  have hr := wrap64_range (wrap64 (be f n) * 256)
  have e : wrap64 (wrap64 (be f n) * 256) = wrap64 (be f n * 256) := wrap64_mod _ _ (by unfold wrap64; omega)
  have hd : wrap64 (be f n * 256) % 256 = 0 := by unfold wrap64; omega
  rw [e] at hr ⊢
  rw [w64 (x := f n) (by omega) (by omega), or8_i64 _ _ hr.1 hr.2 hd h2.1 (by omega)]
  simp only [be]
  unfold wrap64
  omega
end Go.Proofs.YtlljkankongifaaDoor.Abs
namespace Go.Proofs.YtlljkankongifaaDoor.Abs.Pu
open Go Go.RowKit
set_option linter.unusedVariables false
set_option linter.unusedSectionVars false
set_option linter.unusedSimpArgs false
def byte8 (u : Int) (i : Nat) : Int := u / 2 ^ (56 - 8 * i) % 256
def wordL (u : Int) : List Int := [byte8 u 0, byte8 u 1, byte8 u 2, byte8 u 3, byte8 u 4, byte8 u 5, byte8 u 6, byte8 u 7]
def wordB (n : Int) : ByteArray := strOfNums (wordL (IntKind.u64.wrap n))
theorem wordB_size (n : Int) : (wordB n).size = 8 := by rw [wordB, strOfNums_size]; rfl
theorem wordL_isBytes (u : Int) : isBytes (wordL u) := by
  intro x hx
  simp only [wordL, List.mem_cons, List.not_mem_nil, or_false, byte8] at hx
  omega
theorem wrap_u64 (x : Int) : IntKind.u64.wrap x = x % 18446744073709551616 := by
  simp [IntKind.wrap, IntKind.bits, IntKind.signed]
theorem wordv_wordB (n : Int) (h0 : -9223372036854775808 ≤ n) (h1 : n ≤ 9223372036854775807) : wordv (wordB n) 0 = n := by
  have hb : ∀ i, bt (wordB n) ((0 + i : Nat) : Int) = (wordL (IntKind.u64.wrap n)).getD i 0 := by
    intro i
    rw [bt_bytesOf, wordB, bytesOf_strOfNums (wordL_isBytes _), Nat.zero_add]
  unfold wordv
  simp only [hb]
  rw [wrap_u64]
  generalize hu : n % 18446744073709551616 = u
  have hu0 : 0 ≤ u ∧ u < 18446744073709551616 := by omega
  have e : be (fun i => (wordL u).getD i 0) 8 = u := by
    simp only [be, wordL, List.getD_cons_zero, List.getD_cons_succ, byte8]
    simp only [Nat.mul_zero, Nat.sub_zero, Nat.reduceMul, Nat.reduceSub, Int.reducePow, Int.pow_zero, Int.ediv_one]
    omega
  rw [e]
  unfold wrap64
  omega
/-- An image with other bytes from a place on. -/
def replB (s : ByteArray) (p : Nat) (t : ByteArray) : ByteArray := (s.extract 0 p ++ t) ++ s.extract (p + t.size) s.size
theorem repl_size {s t : ByteArray} {p : Nat} (h : p + t.size ≤ s.size) : (replB s p t).size = s.size := by
  simp only [replB, ByteArray.size_append, ByteArray.size_extract]
  omega
theorem bytesOf_append (s t : ByteArray) : bytesOf (s ++ t) = bytesOf s ++ bytesOf t := by
  unfold bytesOf
  rw [ByteArray.data_append, Array.toList_append, List.map_append]
theorem bytesOf_cut (s : ByteArray) (a b : Nat) : bytesOf (s.extract a b) = ((bytesOf s).drop a).take (b - a) := by
  unfold bytesOf
  rw [ByteArray.data_extract, Array.toList_extract, List.extract_eq_take_drop, List.map_take, List.map_drop]
theorem bytesOf_repl {s t : ByteArray} {p : Nat} (h : p + t.size ≤ s.size) : bytesOf (replB s p t) = (bytesOf s).take p ++ (bytesOf t ++ (bytesOf s).drop (p + t.size)) := by
  unfold replB
  rw [bytesOf_append, bytesOf_append, bytesOf_cut, bytesOf_cut, List.drop_zero, Nat.sub_zero, List.append_assoc]
  rw [List.take_of_length_le (l := (bytesOf s).drop (p + t.size)) (by rw [List.length_drop, bytesOf_length]; omega)]
theorem bt_repl {s t : ByteArray} {p : Nat} (h : p + t.size ≤ s.size) (i : Nat) : bt (replB s p t) (i : Int) = if p ≤ i ∧ i < p + t.size then bt t ((i - p : Nat) : Int) else bt s (i : Int) := by
  rw [bt_bytesOf, bt_bytesOf, bt_bytesOf, bytesOf_repl h]
  have hl := bytesOf_length s
  have ht := bytesOf_length t
  have htk : ((bytesOf s).take p).length = p := by rw [List.length_take]; omega
  simp only [List.getD_eq_getElem?_getD]
  by_cases c0 : i < p
  · rw [if_neg (by omega), List.getElem?_append_left (by omega), List.getElem?_take_of_lt c0]
  · rw [List.getElem?_append_right (by omega), htk]
    by_cases c1 : i < p + t.size
    · rw [if_pos (by omega), List.getElem?_append_left (by omega)]
    · rw [if_neg (by omega), List.getElem?_append_right (by omega), List.getElem?_drop, show p + t.size + (i - p - (bytesOf t).length) = i from by omega]
theorem wordv_repl_same {s : ByteArray} {p : Nat} (n : Int) (h : p + 8 ≤ s.size) (h0 : -9223372036854775808 ≤ n) (h1 : n ≤ 9223372036854775807) : wordv (replB s p (wordB n)) p = n := by
  have e := wordv_wordB n h0 h1
  have hz := wordB_size n
  unfold wordv at e ⊢
  refine Eq.trans (congrArg wrap64 (be_congr 8 (fun i hi => ?_))) e
  rw [bt_repl (by omega), if_pos (by omega), show p + i - p = 0 + i from by omega]
theorem wordv_repl_other {s t : ByteArray} {p q : Nat} (h : p + t.size ≤ s.size) (hd : q + 8 ≤ p ∨ p + t.size ≤ q) : wordv (replB s p t) q = wordv s q := by
  unfold wordv
  refine congrArg wrap64 (be_congr 8 (fun i hi => ?_))
  rw [bt_repl h, if_neg (by omega)]
theorem extract_ext {s t : ByteArray} {a b : Nat} (hs : b ≤ s.size) (ht : b ≤ t.size) (h : ∀ i : Nat, a ≤ i → i < b → bt s (i : Int) = bt t (i : Int)) : s.extract a b = t.extract a b := by
  refine bytesOf_inj ?_
  rw [bytesOf_cut, bytesOf_cut]
  refine List.ext_getElem (by simp only [List.length_take, List.length_drop, bytesOf_length]; omega) fun i h1 h2 => ?_
  simp only [List.length_take, List.length_drop, bytesOf_length] at h1 h2
  have hi := h (a + i) (by omega) (by omega)
  rw [bt_bytesOf, bt_bytesOf, List.getD_eq_getElem?_getD, List.getD_eq_getElem?_getD, List.getElem?_eq_getElem (by rw [bytesOf_length]; omega), List.getElem?_eq_getElem (by rw [bytesOf_length]; omega)] at hi
  simpa using hi
theorem wordv_range (s : ByteArray) (p : Nat) : -9223372036854775808 ≤ wordv s p ∧ wordv s p ≤ 9223372036854775807 := wrap64_range _
end Go.Proofs.YtlljkankongifaaDoor.Abs.Pu
namespace Go.Proofs.YtlljkankongifaaDoor.Abs
open Go Go.RowKit
set_option linter.unusedVariables false
set_option linter.unusedSectionVars false
set_option linter.unusedSimpArgs false

theorem rdOf_get {α : Type} {d : α} {l : List α} {i : Nat} (h : i < l.length) : rdOf d l (i : Int) = l[i] := by
  simp [rdOf, List.getD_eq_getElem?_getD, List.getElem?_eq_getElem h]

/-- The search: the first place where the test says yes, or -1. -/
theorem index_ev {α : Type} {d : α} {l : List α} (hl : l.length ≤ 1099511627776) {g : Nat → Int → Option Int} {t : Nat → α → Option Bool} {f : α → Bool}
    (hg : ∀ k (i : Int), g (k + 1) i = if i < (l.length : Int) then (if 0 ≤ i then (if i < (l.length : Int) then ((t k (rdOf d l i)).bind fun b => if b = true then some i else g k (wrap64 (i + 1))) else none) else none) else some (-1))
    (ht : ∀ x ∈ l, Ev (fun k => t k x) (f x)) : ∃ r, Ev (fun k => g k 0) r ∧ decide (r ≥ 0) = l.any f := by
  have lp : ∀ (m i : Nat), l.length - i = m → i ≤ l.length → ∃ r, Ev (fun k => g k (i : Int)) r ∧ decide (r ≥ 0) = (l.drop i).any f := by
    intro m
    induction m with
    | zero =>
      intro i hm hi
      rw [List.drop_eq_nil_of_le (by omega)]
      exact ⟨-1, Ev.step (fun k => by rw [hg]) (Ev.neg (by omega) (Ev.eq rfl)), by simp⟩
    | succ m ih =>
      intro i hm hi
      have hlt : i < l.length := by omega
      obtain ⟨r, hr, he⟩ := ih (i + 1) (by omega) (by omega)
      rw [List.drop_eq_getElem_cons hlt, List.any_cons]
      cases c : f l[i] with
      | true =>
        refine ⟨(i : Int), Ev.step (fun k => by rw [hg]) (Ev.pos (by omega) (Ev.pos (by omega) (Ev.pos (by omega) ?_))), by simp⟩
        rw [rdOf_get hlt]
        exact Ev.bind (ht _ (List.getElem_mem hlt)) (Ev.pos c (Ev.eq rfl))
      | false =>
        refine ⟨r, Ev.step (fun k => by rw [hg]) (Ev.pos (by omega) (Ev.pos (by omega) (Ev.pos (by omega) ?_))), by rw [he, Bool.false_or]⟩
        rw [rdOf_get hlt, show wrap64 ((i : Int) + 1) = ((i + 1 : Nat) : Int) from by rw [w64 (by omega) (by omega)]; omega]
        exact Ev.bind (ht _ (List.getElem_mem hlt)) (Ev.neg (by simp [c]) hr)
  obtain ⟨r, h1, h2⟩ := lp _ 0 rfl (Nat.zero_le _)
  exact ⟨r, h1, by rw [h2, List.drop_zero]⟩

/-- ContainsFunc. -/
theorem contains_ev {α : Type} {d : α} {l : List α} (hl : l.length ≤ 1099511627776) {g : Nat → Int → Option Int} {t : Nat → α → Option Bool} {f : α → Bool}
    (hg : ∀ k (i : Int), g (k + 1) i = if i < (l.length : Int) then (if 0 ≤ i then (if i < (l.length : Int) then ((t k (rdOf d l i)).bind fun b => if b = true then some i else g k (wrap64 (i + 1))) else none) else none) else some (-1))
    (ht : ∀ x ∈ l, Ev (fun k => t k x) (f x)) : Ev (fun k => (g k 0).bind fun t1 => some (decide (t1 ≥ 0))) (l.any f) := by
  obtain ⟨r, h1, h2⟩ := index_ev hl hg ht
  exact Ev.bind h1 (Ev.eq h2)
end Go.Proofs.YtlljkankongifaaDoor.Abs
namespace Go.Proofs.YtlljkankongifaaDoor.Abs
open Go Go.RowKit
set_option linter.unusedVariables false
set_option linter.unusedSectionVars false
set_option linter.unusedSimpArgs false
def kindsOk (l : List UInt8) : Bool := l.all fun b => [105, 114].contains b
def typeOk (s : ByteArray) : Bool := decide (1 ≤ s.size ∧ s.size ≤ 23) && kindsOk s.data.toList
def typesOk (l : List ByteArray) : Bool := decide (1 ≤ l.length ∧ l.length ≤ 12) && l.all typeOk
theorem dropWhile_all {p : UInt8 → Bool} : ∀ l : List UInt8, (∀ x ∈ l.dropWhile p, p x = true) → l.dropWhile p = []
  | [], _ => rfl
  | a :: l, h => by
    by_cases c : p a = true
    · rw [List.dropWhile_cons_of_pos c] at h ⊢
      exact dropWhile_all l h
    · rw [List.dropWhile_cons_of_neg c] at h
      exact absurd (h a (List.mem_cons_self ..)) c
theorem dropWhile_nil_iff {p : UInt8 → Bool} (l : List UInt8) : l.dropWhile p = [] ↔ ∀ x ∈ l, p x = true := by
  constructor
  · intro h
    induction l with
    | nil => simp
    | cons a l ih =>
      by_cases c : p a = true
      · rw [List.dropWhile_cons_of_pos c] at h
        intro x hx
        rcases List.mem_cons.1 hx with rfl | hx
        · exact c
        · exact ih h x hx
      · rw [List.dropWhile_cons_of_neg c] at h
        cases h
  · exact fun h => dropWhile_all l (fun x hx => h x ((List.dropWhile_sublist _).mem hx))
theorem trim_nil (l cs : List UInt8) : Lib.trimS l cs = [] ↔ ∀ x ∈ l, cs.contains x = true := by
  unfold Lib.trimS Lib.trimLeftS Lib.trimRightS
  rw [dropWhile_nil_iff]
  constructor
  · intro h
    have h1 := dropWhile_all (p := fun x => cs.contains x) l.reverse (fun x hx => h x (List.mem_reverse.2 hx))
    rw [dropWhile_nil_iff] at h1
    exact fun x hx => h1 x (List.mem_reverse.2 hx)
  · intro h x hx
    exact h x (List.mem_reverse.1 ((List.dropWhile_sublist _).mem (List.mem_reverse.1 hx)))
theorem isType_f (s : ByteArray) (hs : s.size ≤ 1048576) : impl_isType.f s = some (typeOk s) := by
  unfold impl_isType.f typeOk
  rw [within_f, Option.bind_some]
  by_cases c : 1 ≤ s.size ∧ s.size ≤ 23
  · rw [if_pos (by simp; omega), decide_eq_true c, Bool.true_and]
    have ht : strings_Trim.f s (⟨#[105, 114]⟩ : ByteArray) = some ⟨(Lib.trimS s.data.toList [105, 114]).toArray⟩ := by
      unfold strings_Trim.f
      rw [if_pos (by omega), if_pos (by decide), if_pos (by decide)]
    rw [ht, Option.bind_some]
    congr 1
    rw [Bool.eq_iff_iff, decide_eq_true_iff, ByteArray.toList_eq, ByteArray.toList_eq]
    show (Lib.trimS s.data.toList [105, 114]).toArray.toList = [] ↔ _
    rw [trim_nil, kindsOk, List.all_eq_true]
  · rw [if_neg (by simp; omega), decide_eq_false c, Bool.false_and]
theorem impl_TypesOk_ev (l : List ByteArray) (hs : ∀ x ∈ l, x.size ≤ 1048576) : Ev (fun k => impl_TypesOk.f k l) (typesOk l) := by
  have hany : l.length ≤ 12 → Ev (fun k => slices_ContainsFunc_string_at_impl_TypesOk_1.f k l) (l.any fun x => !typeOk x) := fun hl => by
    unfold slices_ContainsFunc_string_at_impl_TypesOk_1.f slices_IndexFunc_string_at_impl_TypesOk_1.f
    refine contains_ev (d := ByteArray.empty) (l := l) (by omega) (g := fun k i => slices_IndexFunc_string_at_impl_TypesOk_1.p6 k l (l.length : Int) i) (t := fun _ x => impl_TypesOk_1.f x) (f := fun x => !typeOk x) (fun k i => by rw [slices_IndexFunc_string_at_impl_TypesOk_1.p6]) (fun x hx => ?_)
    unfold impl_TypesOk_1.f
    exact Ev.bindo (isType_f x (hs x hx)) (Ev.eq rfl)
  unfold impl_TypesOk.f typesOk
  refine Ev.bindo rfl (Ev.bindo (within_f _ _ _) ?_)
  by_cases c : 1 ≤ l.length ∧ l.length ≤ 12
  · refine Ev.pos (by simp; omega) (Ev.bind (hany c.2) (Ev.eq ?_))
    rw [decide_eq_true c, Bool.true_and, List.any_eq_not_all_not]
    simp
  · refine Ev.neg (by simp; omega) (Ev.eq ?_)
    rw [decide_eq_false c, Bool.false_and]
theorem bt_get {s : ByteArray} {i : Nat} (h : i < s.data.toList.length) : bt s (i : Int) = (s.data.toList[i].toNat : Int) := by
  have h' : i < s.size := h
  rw [← bt_at s (i : Int) (by simpa using h')]
  simp [ByteArray.getElem_eq_getElem_data]
theorem l3Type_ev (s : ByteArray) (hs : s.size ≤ 1048576) : Ev (fun k => spec_l3Type.f k s) (typeOk s) := by
  have hlen : s.data.toList.length = s.size := rfl
  have lp : ∀ (d i : Nat), s.size - i = d → i ≤ s.size → Ev (fun k => spec_l3Type.p6 k s (i : Int)) (decide (1 ≤ s.size ∧ s.size ≤ 23) && kindsOk (s.data.toList.drop i)) := by
    intro d
    induction d with
    | zero =>
      intro i hd hi
      rw [List.drop_eq_nil_of_le (by omega)]
      refine Ev.step (fun k => by rw [spec_l3Type.p6]) (Ev.neg (by omega) (Ev.bindo (l1In_f _ _ _) (Ev.eq ?_)))
      simp only [kindsOk, List.all_nil, Bool.and_true]
      rw [Bool.eq_iff_iff]
      simp
      omega
    | succ d ih =>
      intro i hd hi
      have hlt : i < s.data.toList.length := by omega
      have ih := ih (i + 1) (by omega) (by omega)
      refine Ev.step (fun k => by rw [spec_l3Type.p6]) ?_
      rw [byteAt_eq, bt_get hlt, show wrap64 ((i : Int) + 1) = ((i + 1 : Nat) : Int) from by rw [w64 (by omega) (by omega)]; omega, List.drop_eq_getElem_cons hlt]
      generalize s.data.toList[i] = b at *
      have hb : kindsOk (b :: s.data.toList.drop (i + 1)) = ([105, 114].contains b && kindsOk (s.data.toList.drop (i + 1))) := rfl
      rw [hb]
      refine Ev.pos (by omega) (Ev.pos (by omega) (Ev.pos (by omega) (Ev.cases (fun c => ?_) (fun c => Ev.pos (by omega) (Ev.pos (by omega) (Ev.cases (fun c2 => ?_) (fun c2 => Ev.eq ?_)))))))
      · have e : b = 105 := UInt8.toNat_inj.1 (by show b.toNat = 105; omega)
        subst e
        rw [show [105, 114].contains (105 : UInt8) = true from rfl, Bool.true_and]
        exact ih
      · have e : b = 114 := UInt8.toNat_inj.1 (by show b.toNat = 114; omega)
        subst e
        rw [show [105, 114].contains (114 : UInt8) = true from rfl, Bool.true_and]
        exact ih
      · have e : [105, 114].contains b = false := by
          rw [Bool.eq_false_iff]
          intro h
          simp at h
          rcases h with h | h
          · subst h; exact c rfl
          · subst h; exact c2 rfl
        rw [e, Bool.false_and, Bool.and_false]
  unfold spec_l3Type.f typeOk
  have h := lp _ 0 rfl (by omega)
  rw [List.drop_zero] at h
  exact h
theorem spec_TypesOk_ev (l : List ByteArray) (hl : l.length ≤ 1048576) (hs : ∀ x ∈ l, x.size ≤ 1048576) : Ev (fun k => spec_TypesOk.f k l) (typesOk l) := by
  have lp : ∀ (d i : Nat), l.length - i = d → i ≤ l.length → Ev (fun k => spec_TypesOk.p14 k l (i : Int)) ((l.drop i).all typeOk) := by
    intro d
    induction d with
    | zero =>
      intro i hd hi
      rw [List.drop_eq_nil_of_le (by omega)]
      refine Ev.step (fun k => by rw [spec_TypesOk.p14]) ?_
      exact Ev.neg (by omega) (Ev.eq rfl)
    | succ d ih =>
      intro i hd hi
      have hlt : i < l.length := by omega
      have ih := ih (i + 1) (by omega) (by omega)
      refine Ev.step (fun k => by rw [spec_TypesOk.p14]) ?_
      rw [show rdOf ByteArray.empty l (i : Int) = l[i] from by simp [rdOf, List.getD_eq_getElem?_getD, List.getElem?_eq_getElem hlt], show wrap64 ((i : Int) + 1) = ((i + 1 : Nat) : Int) from by rw [w64 (by omega) (by omega)]; omega, List.drop_eq_getElem_cons hlt, List.all_cons]
      refine Ev.pos (by omega) (Ev.pos (by omega) (Ev.pos (by omega) (Ev.bind (l3Type_ev l[i] (hs _ (List.getElem_mem hlt))) (Ev.cases (fun c => ?_) (fun c => ?_)))))
      · rw [c, Bool.true_and]
        exact ih
      · rw [Bool.eq_false_iff.2 c, Bool.false_and]
        exact Ev.eq rfl
  unfold spec_TypesOk.f typesOk
  refine Ev.bindo (l1In_f _ _ _) ?_
  by_cases c : 1 ≤ l.length ∧ l.length ≤ 12
  · rw [decide_eq_true c, Bool.true_and]
    refine Ev.pos (by simp; omega) ?_
    have h := lp _ 0 rfl (by omega)
    rw [List.drop_zero] at h
    exact h
  · rw [decide_eq_false c, Bool.false_and]
    exact Ev.neg (by simp; omega) (Ev.eq rfl)
end Go.Proofs.YtlljkankongifaaDoor.Abs
namespace Go.Proofs.YtlljkankongifaaDoor.Abs.Pu
open Go Go.RowKit
set_option linter.unusedVariables false
set_option linter.unusedSectionVars false
set_option linter.unusedSimpArgs false
/-- An object of valid types, its references such that p holds. -/
def objW (p : Int → Bool) (types : List ByteArray) (o : Int × List Int) : Bool :=
  (decide (0 ≤ o.1) && decide (o.1 ≤ (types.length : Int) - 1)) && (decide (o.2.length = (rdOf ByteArray.empty types o.1).size) && refsB p (rdOf ByteArray.empty types o.1) 0 o.2)
theorem type_size {types : List ByteArray} (ht : typesOk types = true) (t : Int) : (rdOf ByteArray.empty types t).size ≤ 23 := by
  unfold typesOk at ht
  rw [Bool.and_eq_true, List.all_eq_true] at ht
  unfold rdOf
  by_cases h : t.toNat < types.length
  · have := ht.2 _ (List.getElem_mem h)
    rw [List.getD_eq_getElem?_getD, List.getElem?_eq_getElem h]
    unfold typeOk at this
    simp only [Bool.and_eq_true, decide_eq_true_eq] at this
    exact this.1.2
  · rw [List.getD_eq_getElem?_getD, List.getElem?_eq_none (by omega)]
    exact Nat.zero_le _
theorem types_len {types : List ByteArray} (ht : typesOk types = true) : 1 ≤ types.length ∧ types.length ≤ 12 := by
  unfold typesOk at ht
  rw [Bool.and_eq_true] at ht
  simpa using ht.1
end Go.Proofs.YtlljkankongifaaDoor.Abs.Pu
namespace Go.Proofs.YtlljkankongifaaDoor.Abs.Pu
open Go Go.RowKit
set_option linter.unusedVariables false
set_option linter.unusedSectionVars false
set_option linter.unusedSimpArgs false
/-- The bytes of words. -/
def WL : List Int → List Int
  | [] => []
  | n :: l => wordL (IntKind.u64.wrap n) ++ WL l
theorem wordL_length (u : Int) : (wordL u).length = 8 := rfl
theorem WL_length : ∀ l : List Int, (WL l).length = 8 * l.length
  | [] => rfl
  | n :: l => by rw [WL, List.length_append, wordL_length, WL_length l, List.length_cons]; omega
theorem WL_append : ∀ a b : List Int, WL (a ++ b) = WL a ++ WL b
  | [], _ => rfl
  | n :: a, b => by rw [List.cons_append, WL, WL, WL_append a b, List.append_assoc]
theorem WL_isBytes : ∀ l : List Int, isBytes (WL l)
  | [], x, hx => by cases hx
  | n :: l, x, hx => by
    rw [WL, List.mem_append] at hx
    rcases hx with hx | hx
    · exact wordL_isBytes _ x hx
    · exact WL_isBytes l x hx
theorem strOfNums_append (a b : List Int) : strOfNums (a ++ b) = strOfNums a ++ strOfNums b := by
  unfold strOfNums
  rw [List.map_append]
  apply ByteArray.ext
  rw [ByteArray.data_append]
  simp
theorem isBytes_append {a b : List Int} (ha : isBytes a) (hb : isBytes b) : isBytes (a ++ b) := fun x hx => by
  rcases List.mem_append.1 hx with hx | hx
  · exact ha x hx
  · exact hb x hx
/-- A word among words. -/
theorem wordv_WL (pre post z : List Int) (n : Int) (hz : isBytes z) (h0 : -9223372036854775808 ≤ n) (h1 : n ≤ 9223372036854775807) : wordv (strOfNums (WL (pre ++ n :: post) ++ z)) (8 * pre.length) = n := by
  have e := wordv_wordB n h0 h1
  unfold wordv at e ⊢
  refine Eq.trans (congrArg wrap64 (be_congr 8 (fun i hi => ?_))) e
  rw [bt_bytesOf, bt_bytesOf, bytesOf_strOfNums (isBytes_append (WL_isBytes _) hz), wordB, bytesOf_strOfNums (wordL_isBytes _), WL_append, WL, Nat.zero_add]
  simp only [List.getD_eq_getElem?_getD]
  rw [List.append_assoc, List.getElem?_append_right (by rw [WL_length]; omega), WL_length, show 8 * pre.length + i - 8 * pre.length = i from by omega, List.append_assoc, List.getElem?_append_left (by rw [wordL_length]; exact hi)]
/-- The lines of an object of a type. -/
def runL (types : List ByteArray) (t : Int) : Nat := ((rdOf ByteArray.empty types t).size + 8) / 8
def objB8 (types : List ByteArray) (o : Int × List Int) : ByteArray := strOfNums (WL ((o.1 + 1) :: o.2) ++ List.replicate (64 * runL types o.1 - 8 * (o.2.length + 1)) 0)
def okRef8 (x : Int) : Bool := true
theorem runL_bound {types : List ByteArray} (ht : typesOk types = true) (t : Int) : 1 ≤ runL types t ∧ runL types t ≤ 3 ∧ (rdOf ByteArray.empty types t).size + 1 ≤ 8 * runL types t := by
  have := type_size ht t
  unfold runL
  omega
theorem objB8_size {types : List ByteArray} {o : Int × List Int} (ht : typesOk types = true) (h : o.2.length = (rdOf ByteArray.empty types o.1).size) : (objB8 types o).size = 64 * runL types o.1 := by
  have := runL_bound ht o.1
  rw [objB8, strOfNums_size, List.length_append, WL_length, List.length_cons, List.length_replicate]
  omega
theorem objB8_head {types : List ByteArray} {o : Int × List Int} (h0 : 0 ≤ o.1) (h1 : o.1 ≤ 100) : wordv (objB8 types o) 0 = o.1 + 1 :=
  wordv_WL [] o.2 _ (o.1 + 1) (isBytes_replicate _) (by omega) (by omega)
theorem objB8_val {types : List ByteArray} {o : Int × List Int} (i : Nat) (h : i < o.2.length) (hi : ∀ x ∈ o.2, -9223372036854775808 ≤ x ∧ x ≤ 9223372036854775807) : wordv (objB8 types o) (8 + 8 * i) = o.2[i] := by
  have hx := hi _ (List.getElem_mem h)
  have hs : o.2 = o.2.take i ++ o.2[i] :: o.2.drop (i + 1) := by
    rw [← List.drop_eq_getElem_cons h, List.take_append_drop]
  have := wordv_WL ((o.1 + 1) :: o.2.take i) (o.2.drop (i + 1)) (List.replicate (64 * runL types o.1 - 8 * (o.2.length + 1)) 0) o.2[i] (isBytes_replicate _) hx.1 hx.2
  rw [List.cons_append, ← hs, List.length_cons, List.length_take, show 8 * (min i o.2.length + 1) = 8 + 8 * i from by omega] at this
  exact this
/-- The values that stand in bytes. -/
def valsOf (s : ByteArray) (n : Nat) : List Int := (List.range n).map fun i => wordv s (8 + 8 * i)
theorem valsOf_objB8 {types : List ByteArray} {o : Int × List Int} (hi : ∀ x ∈ o.2, -9223372036854775808 ≤ x ∧ x ≤ 9223372036854775807) : valsOf (objB8 types o) o.2.length = o.2 := by
  refine List.ext_getElem (by simp [valsOf]) (fun i h1 h2 => ?_)
  simp only [valsOf, List.getElem_map, List.getElem_range]
  exact objB8_val i h2 hi
end Go.Proofs.YtlljkankongifaaDoor.Abs.Pu
namespace Go.Proofs.YtlljkankongifaaDoor.Abs
open Go Go.RowKit
set_option linter.unusedVariables false
set_option linter.unusedSectionVars false
set_option linter.unusedSimpArgs false

def refk (a : Int) : Int := if a = 0 then 0 else if 2 ≤ a ∧ a ≤ 254 ∧ a % 2 = 0 then 1 else if 1 ≤ a ∧ a ≤ 799 ∧ a % 2 = 1 then 2 else -1
theorem refk_cases (a : Int) : refk a = 0 ∨ refk a = 1 ∨ refk a = 2 ∨ refk a = -1 := by
  unfold refk
  repeat' split
  all_goals simp
theorem tmod2 {a : Int} (h : 0 ≤ a) : Int.tmod a 2 = a % 2 := Int.tmod_eq_emod_of_nonneg h
theorem refKind_body (a : Int) (w : Int → Int → Int → Option Bool) (hw : ∀ a lo hi, w a lo hi = some (decide (lo ≤ a) && decide (a ≤ hi))) :
    (if a = 0 then (some 0) else ((w a 2 254).bind fun t1 => (if t1 = true then (if (Int.tmod a 2) = 0 then (some 1) else ((w a 1 799).bind fun t2 => (if t2 = true then (if (Int.tmod a 2) = 1 then (some 2) else (some (-1))) else (some (-1))))) else ((w a 1 799).bind fun t3 => (if t3 = true then (if (Int.tmod a 2) = 1 then (some 2) else (some (-1))) else (some (-1))))))) = some (refk a) := by
  simp only [hw, Option.bind_some, Bool.and_eq_true, decide_eq_true_eq]
  unfold refk
  by_cases ha : 0 ≤ a
  · simp only [tmod2 ha]
    (repeat' split) <;> first | rfl | (exfalso; omega)
  · (repeat' split) <;> first | rfl | (exfalso; omega)
theorem spec_RefKind_f (a : Int) : spec_RefKind.f a = some (refk a) := refKind_body a spec_l1In.f l1In_f
theorem impl_RefKind_f (a : Int) : impl_RefKind.f a = some (refk a) := refKind_body a impl_within.f within_f
end Go.Proofs.YtlljkankongifaaDoor.Abs
namespace Go.Proofs.YtlljkankongifaaDoor.Abs.Pu
open Go Go.RowKit
set_option linter.unusedVariables false
set_option linter.unusedSectionVars false
set_option linter.unusedSimpArgs false
def okRf (x : Int) : Bool := decide (refk x ≥ 0)
def objOk8 (types : List ByteArray) (o : Int × List Int) : Bool := typesOk types && objW okRf types o
def bytesR (types : List ByteArray) (o : Int × List Int) : ByteArray := if objOk8 types o = true then objB8 types o else ByteArray.empty
def readO (types : List ByteArray) (s : ByteArray) : Int × List Int := (wordv s 0 - 1, valsOf s (rdOf ByteArray.empty types (wordv s 0 - 1)).size)
def readR (types : List ByteArray) (s : ByteArray) : (Int × List Int) × Bool :=
  if typesOk types = true ∧ 64 ≤ s.size ∧ (1 ≤ wordv s 0 ∧ wordv s 0 ≤ types.length) ∧ s.size = 64 * runL types (wordv s 0 - 1) ∧ bytesR types (readO types s) = s then (readO types s, true) else ((0, []), false)
theorem objOk8_facts {types : List ByteArray} {o : Int × List Int} (h : objOk8 types o = true) : typesOk types = true ∧ 0 ≤ o.1 ∧ o.1 < types.length ∧ types.length ≤ 12 ∧ o.2.length = (rdOf ByteArray.empty types o.1).size ∧ o.2.length ≤ 23 ∧ refsB okRf (rdOf ByteArray.empty types o.1) 0 o.2 = true := by
  unfold objOk8 objW at h
  simp only [Bool.and_eq_true, decide_eq_true_eq] at h
  have := type_size h.1 o.1
  have := types_len h.1
  exact ⟨h.1, h.2.1.1, by omega, by omega, h.2.2.1, by omega, h.2.2.2⟩
theorem readR_yes {types : List ByteArray} {s : ByteArray} (h : (readR types s).2 = true) : (readR types s).1 = readO types s ∧ bytesR types (readO types s) = s ∧ objOk8 types (readO types s) = true ∧ s.size = 64 * runL types (wordv s 0 - 1) ∧ 64 ≤ s.size := by
  unfold readR at h ⊢
  split at h
  · rename_i c
    rw [if_pos c]
    refine ⟨rfl, c.2.2.2.2, ?_, c.2.2.2.1, c.2.1⟩
    by_cases e : objOk8 types (readO types s) = true
    · exact e
    · have h2 := c.2.2.2.2
      unfold bytesR at h2
      rw [if_neg e] at h2
      have h3 := c.2.1
      rw [← h2] at h3
      exact absurd h3 (by decide)
  · cases h
theorem readO_bytes {types : List ByteArray} {o : Int × List Int} (h : objOk8 types o = true) (hi : ∀ x ∈ o.2, -9223372036854775808 ≤ x ∧ x ≤ 9223372036854775807) : readO types (objB8 types o) = o ∧ wordv (objB8 types o) 0 = o.1 + 1 := by
  obtain ⟨ht, h0, h1, h2, h3, h4, h5⟩ := objOk8_facts h
  have hh := objB8_head (types := types) h0 (by omega)
  refine ⟨?_, hh⟩
  unfold readO
  rw [hh, show o.1 + 1 - 1 = o.1 from by omega, ← h3, valsOf_objB8 hi]
/-- What was written is read. -/
theorem readR_bytes {types : List ByteArray} {o : Int × List Int} (h : objOk8 types o = true) (hi : ∀ x ∈ o.2, -9223372036854775808 ≤ x ∧ x ≤ 9223372036854775807) : readR types (bytesR types o) = (o, true) := by
  obtain ⟨ht, h0, h1, h2, h3, h4, h5⟩ := objOk8_facts h
  obtain ⟨e1, e2⟩ := readO_bytes h hi
  have hz := objB8_size ht h3
  have hr := runL_bound ht o.1
  have hb : bytesR types o = objB8 types o := by unfold bytesR; rw [if_pos h]
  rw [hb]
  unfold readR
  rw [if_pos ⟨ht, by omega, by omega, by rw [e2, show o.1 + 1 - 1 = o.1 from by omega]; exact hz, by rw [e1]; exact hb⟩, e1]
theorem readR_none (types : List ByteArray) : readR types ByteArray.empty = ((0, []), false) := by
  unfold readR
  rw [if_neg (fun h => absurd h.2.1 (by decide))]
theorem readR_length (types : List ByteArray) (s : ByteArray) : (readR types s).1.2.length ≤ 23 := by
  by_cases h : (readR types s).2 = true
  · have h2 := readR_yes h
    rw [h2.1]
    exact (objOk8_facts h2.2.2.1).2.2.2.2.2.1
  · unfold readR at h ⊢
    split
    · rename_i c
      rw [if_pos c] at h
      exact absurd rfl h
    · exact Nat.zero_le _
end Go.Proofs.YtlljkankongifaaDoor.Abs.Pu
namespace Go.Proofs.YtlljkankongifaaDoor.Abs.Pu
open Go Go.RowKit
set_option linter.unusedVariables false
set_option linter.unusedSectionVars false
set_option linter.unusedSimpArgs false
theorem spec_WordBytes_ev (n : Int) : Ev (fun k => spec_WordBytes.f k n) (wordB n) := by
  have hu : 0 ≤ IntKind.u64.wrap n ∧ IntKind.u64.wrap n < 18446744073709551616 := by rw [wrap_u64]; omega
  have set1 : ∀ (u : Int) (i : Nat), i < 8 → ((wordL u).take i ++ List.replicate (8 - i) 0).set i (byte8 u i) = (wordL u).take (i + 1) ++ List.replicate (8 - (i + 1)) 0 := by
    intro u i hi
    obtain rfl | rfl | rfl | rfl | rfl | rfl | rfl | rfl : i = 0 ∨ i = 1 ∨ i = 2 ∨ i = 3 ∨ i = 4 ∨ i = 5 ∨ i = 6 ∨ i = 7 := by omega
    all_goals rfl
  have lp : ∀ (d i : Nat), 8 - i = d → i ≤ 8 → Ev (fun k => spec_WordBytes.p8 k n ((wordL (IntKind.u64.wrap n)).take i ++ List.replicate (8 - i) 0) (i : Int)) (wordB n) := by
    intro d
    induction d with
    | zero =>
      intro i hd hi
      obtain rfl : i = 8 := by omega
      refine Ev.step (fun k => by rw [spec_WordBytes.p8]) ?_
      refine Ev.neg (by decide) (Ev.eq ?_)
      rfl
    | succ d ih =>
      intro i hd hi
      have hi8 : i < 8 := by omega
      have hl : ((wordL (IntKind.u64.wrap n)).take i ++ List.replicate (8 - i) 0).length = 8 := by
        rw [List.length_append, List.length_take, List.length_replicate, show (wordL (IntKind.u64.wrap n)).length = 8 from rfl]; omega
      have ih := ih (i + 1) (by omega) (by omega)
      rw [← set1 _ i hi8] at ih
      refine Ev.step (fun k => by rw [spec_WordBytes.p8]) ?_
      rw [w64 (x := 8 * (i : Int)) (by omega) (by omega), w64 (x := 56 - 8 * (i : Int)) (by omega) (by omega), show IntKind.u64.wrap (56 - 8 * (i : Int)) = ((56 - 8 * i : Nat) : Int) from by rw [wrap_u64]; omega,
        show wrap64 ((i : Int) + 1) = ((i + 1 : Nat) : Int) from by rw [w64 (by omega) (by omega)]; omega, Int.toNat_natCast,
        show shrA .u64 (IntKind.u64.wrap n) ((56 - 8 * i : Nat) : Int) % 256 = byte8 (IntKind.u64.wrap n) i from by
          unfold shrA byte8
          rw [Int.toNat_natCast, show min (56 - 8 * i) IntKind.u64.bits = 56 - 8 * i from Nat.min_eq_left (by show 56 - 8 * i ≤ 64; omega)]]
      exact Ev.pos (by omega) (Ev.neg (by omega) (Ev.pos (by omega) (Ev.pos (by rw [hl]; omega) ih)))
  unfold spec_WordBytes.f
  exact lp 8 0 rfl (by omega)
theorem impl_bigBytes_ev (u : Int) (h0 : 0 ≤ u) : Ev (fun k => impl_bigBytes.f k u 8) (strOfNums (wordL u)) := by
  have set1 : ∀ (i : Nat), i < 8 → (List.replicate (8 - i) 0 ++ (wordL u).drop (8 - i)).set (7 - i) (byte8 u (7 - i)) = List.replicate (8 - (i + 1)) 0 ++ (wordL u).drop (8 - (i + 1)) := by
    intro i hi
    obtain rfl | rfl | rfl | rfl | rfl | rfl | rfl | rfl : i = 0 ∨ i = 1 ∨ i = 2 ∨ i = 3 ∨ i = 4 ∨ i = 5 ∨ i = 6 ∨ i = 7 := by omega
    all_goals rfl
  have lp : ∀ (d i : Nat), 8 - i = d → i ≤ 8 → Ev (fun k => impl_bigBytes.p8 k (u / 2 ^ (8 * i)) 8 (List.replicate (8 - i) 0 ++ (wordL u).drop (8 - i)) 8 (i : Int)) (strOfNums (wordL u)) := by
    intro d
    induction d with
    | zero =>
      intro i hd hi
      obtain rfl : i = 8 := by omega
      refine Ev.step (fun k => by rw [impl_bigBytes.p8]) ?_
      refine Ev.neg (by decide) (Ev.eq ?_)
      rfl
    | succ d ih =>
      intro i hd hi
      have hi8 : i < 8 := by omega
      have hl : (List.replicate (8 - i) 0 ++ (wordL u).drop (8 - i)).length = 8 := by
        rw [List.length_append, List.length_drop, List.length_replicate, show (wordL u).length = 8 from rfl]; omega
      have ih := ih (i + 1) (by omega) (by omega)
      rw [← set1 i hi8] at ih
      refine Ev.step (fun k => by rw [impl_bigBytes.p8]) ?_
      rw [w64 (x := 8 - 1) (by omega) (by omega), w64 (x := 8 - 1 - (i : Int)) (by omega) (by omega), show (8 - 1 - (i : Int)) = ((7 - i : Nat) : Int) from by omega,
        show wrap64 ((i : Int) + 1) = ((i + 1 : Nat) : Int) from by rw [w64 (by omega) (by omega)]; omega, Int.toNat_natCast,
        show u / 2 ^ (8 * i) % 256 = byte8 u (7 - i) from by unfold byte8; rw [show 56 - 8 * (7 - i) = 8 * i from by omega],
        show shrA .u64 (u / 2 ^ (8 * i)) 8 = u / 2 ^ (8 * (i + 1)) from by
          show u / 2 ^ (8 * i) / 2 ^ 8 = _
          rw [Int.ediv_ediv_of_nonneg (Int.pow_nonneg (by decide)), show (8 * (i + 1)) = 8 * i + 8 from by omega, Int.pow_add]]
      exact Ev.pos (by omega) (Ev.pos (by omega) (Ev.pos (by rw [hl]; omega) ih))
  unfold impl_bigBytes.f
  refine Ev.pos (by decide) (Ev.pos (by decide) ?_)
  have h := lp 8 0 rfl (by omega)
  rw [Nat.mul_zero, Int.pow_zero, Int.ediv_one] at h
  exact h
theorem impl_WordBytes_ev (n : Int) : Ev (fun k => impl_WordBytes.f k n) (wordB n) := by
  unfold impl_WordBytes.f
  exact Ev.bind (impl_bigBytes_ev _ (by rw [wrap_u64]; omega)) (Ev.eq rfl)
end Go.Proofs.YtlljkankongifaaDoor.Abs.Pu
namespace Go.Proofs.YtlljkankongifaaDoor.Abs.Pu
open Go Go.RowKit
set_option linter.unusedVariables false
set_option linter.unusedSectionVars false
set_option linter.unusedSimpArgs false
def okRef (x : Int) : Bool := decide (refk x ≥ 0)
def objOkB (types : List ByteArray) (o : Int × List Int) : Bool := typesOk types && objW okRef types o
theorem impl_ObjOk_ev (types : List ByteArray) (o : Int × List Int) (hs : ∀ x ∈ types, x.size ≤ 1048576) : Ev (fun k => impl_ObjOk.f k types o.1 o.2) (objOkB types o) := by
  unfold impl_ObjOk.f objOkB
  refine Ev.bind (impl_TypesOk_ev types hs) (Ev.cases (fun ht => ?_) (fun ht => by rw [Bool.eq_false_iff.2 ht, Bool.false_and]; exact Ev.eq rfl))
  rw [ht, Bool.true_and]
  have htl := types_len ht
  have hts := type_size ht o.1
  refine Ev.bind (a := objW okRef types o) ?_ (Ev.eq rfl)
  unfold impl_isObject_at_impl_ObjOk_1.f impl_size_string.f objW
  refine Ev.bindo rfl (Ev.bindo (within_f _ _ _) ?_)
  rw [w64 (x := (types.length : Int) - 1) (by omega) (by omega)]
  refine Ev.cases (fun c => ?_) (fun c => ?_)
  · rw [c, Bool.true_and]
    simp only [Bool.and_eq_true, decide_eq_true_eq] at c
    refine Ev.pos c.1 (Ev.pos (by omega) ?_)
    by_cases c2 : o.2.length = (rdOf ByteArray.empty types o.1).size
    · rw [decide_eq_true c2, Bool.true_and]
      refine Ev.pos (by omega) ?_
      refine refs_ev (g := fun k i => impl_isObject_at_impl_ObjOk_1.p14 k types o.1 o.2 o.2 (o.2.length : Int) i) (t := fun _ x => impl_ObjOk_1.f x) c.1 (by omega) c2 (by omega) (fun k i => by rw [impl_isObject_at_impl_ObjOk_1.p14]) (fun x _ => ?_)
      unfold impl_ObjOk_1.f
      exact Ev.bindo (impl_RefKind_f x) (Ev.eq rfl)
    · rw [decide_eq_false c2, Bool.false_and]
      exact Ev.neg (by omega) (Ev.eq rfl)
  · rw [Bool.eq_false_iff.2 c, Bool.false_and]
    exact Ev.eq rfl
theorem spec_ObjOk_ev (types : List ByteArray) (o : Int × List Int) (hl : types.length ≤ 1048576) (hs : ∀ x ∈ types, x.size ≤ 1048576) : Ev (fun k => spec_ObjOk.f k types o.1 o.2) (objOkB types o) := by
  unfold spec_ObjOk.f objOkB
  refine Ev.bind (spec_TypesOk_ev types hl hs) (Ev.cases (fun ht => ?_) (fun ht => by rw [Bool.eq_false_iff.2 ht, Bool.false_and]; exact Ev.eq rfl))
  rw [ht, Bool.true_and]
  have htl := types_len ht
  have hts := type_size ht o.1
  unfold objW
  rw [w64 (x := (types.length : Int) - 1) (by omega) (by omega)]
  refine Ev.bindo (l1In_f _ _ _) (Ev.cases (fun c => ?_) (fun c => by rw [Bool.eq_false_iff.2 c, Bool.false_and]; exact Ev.eq rfl))
  rw [c, Bool.true_and]
  simp only [Bool.and_eq_true, decide_eq_true_eq] at c
  obtain ⟨tp, vals⟩ := o
  simp only [] at *
  refine Ev.pos c.1 (Ev.pos (by omega) ?_)
  by_cases c2 : vals.length = (rdOf ByteArray.empty types tp).size
  rotate_left
  · rw [decide_eq_false c2, Bool.false_and]
    exact Ev.neg (by omega) (Ev.eq rfl)
  rw [decide_eq_true c2, Bool.true_and]
  refine Ev.pos (by omega) ?_
  have key : ∀ i, i ≤ vals.length → Ev (fun k => spec_ObjOk.p14 k types tp vals (i : Int)) (refsB okRef (rdOf ByteArray.empty types tp) i (vals.drop i)) := by
    refine down ?_ ?_
    · rw [List.drop_eq_nil_of_le (Nat.le_refl _)]
      refine Ev.step (fun k => by rw [spec_ObjOk.p14]) ?_
      exact Ev.neg (by omega) (Ev.eq rfl)
    · intro i hi ih
      refine Ev.step (fun k => by rw [spec_ObjOk.p14]) ?_
      rw [rd_get hi, w64s (by omega), List.drop_eq_getElem_cons hi, refsB]
      refine Ev.pos (by omega) (Ev.pos c.1 (Ev.pos (by omega) (Ev.pos (by omega) (Ev.pos (by omega) ?_))))
      by_cases c3 : bt (rdOf ByteArray.empty types tp) (i : Int) = 114
      · rw [if_pos c3]
        refine Ev.pos c3 (Ev.pos (by omega) (Ev.pos (by omega) (Ev.bindo (spec_RefKind_f _) ?_)))
        by_cases c4 : refk vals[i] < 0
        · rw [show okRef vals[i] = false from decide_eq_false (by omega), Bool.false_and]
          exact Ev.pos c4 (Ev.eq rfl)
        · rw [show okRef vals[i] = true from decide_eq_true (by omega), Bool.true_and]
          exact Ev.neg c4 ih
      · rw [if_neg c3]
        exact Ev.neg c3 ih
  have h := key 0 (Nat.zero_le _)
  rw [List.drop_zero] at h
  exact h
end Go.Proofs.YtlljkankongifaaDoor.Abs.Pu
namespace Go.Proofs.YtlljkankongifaaDoor.Abs.Pu
open Go Go.RowKit
set_option linter.unusedVariables false
set_option linter.unusedSectionVars false
set_option linter.unusedSimpArgs false
theorem bt_byte (s : ByteArray) : ∀ p i : Nat, 0 ≤ bt s ((p + i : Nat) : Int) ∧ bt s ((p + i : Nat) : Int) ≤ 255 := fun p i => bt_range s _
theorem spec_ReadWord_ev (s : ByteArray) (h : s.size = 8) : Ev (fun k => spec_ReadWord.f k s) (wordv s 0, true) := by
  have key : ∀ i, i ≤ 8 → Ev (fun k => spec_ReadWord.p16 k s (be (fun i => bt s ((0 + i : Nat) : Int)) i) (i : Int)) (wordv s 0, true) := by
    refine down ?_ ?_
    · refine Ev.step (fun k => by rw [spec_ReadWord.p16]) ?_
      exact Ev.neg (by omega) (Ev.eq rfl)
    · intro i hi ih
      refine Ev.step (fun k => by rw [spec_ReadWord.p16]) ?_
      refine Ev.pos (by omega) (Ev.pos (by omega) (Ev.pos (by omega) ?_))
      have e := be_step_u64 (fun i => bt s ((0 + i : Nat) : Int)) (fun i => bt_byte s 0 i) i (by omega)
      simp only [Nat.zero_add] at e ih ⊢
      rw [byteAt_eq, orA_eq, shl8_u64, e, w64s (i := i) (by omega)]
      exact ih
  unfold spec_ReadWord.f
  exact Ev.pos (by omega) (key 0 (by omega))
theorem impl_wordAt_ev (s : ByteArray) (p : Nat) (h : p + 8 ≤ s.size) (hs : s.size ≤ 140737488355328) : Ev (fun k => impl_wordAt.f k s (p : Int)) (wordv s p) := by
  have key : ∀ i, i ≤ 8 → Ev (fun k => impl_wordAt.p8 k s (p : Int) (wrap64 (be (fun i => bt s ((p + i : Nat) : Int)) i)) (i : Int)) (wordv s p) := by
    refine down ?_ ?_
    · refine Ev.step (fun k => by rw [impl_wordAt.p8]) ?_
      exact Ev.neg (by omega) (Ev.eq rfl)
    · intro i hi ih
      refine Ev.step (fun k => by rw [impl_wordAt.p8]) ?_
      rw [show wrap64 ((p : Int) + (i : Int)) = ((p + i : Nat) : Int) from by rw [w64 (by omega) (by omega)]; omega]
      refine Ev.pos (by omega) (Ev.pos (by omega) (Ev.pos (by omega) ?_))
      have e := be_step_i64 (fun i => bt s ((p + i : Nat) : Int)) (fun i => bt_byte s p i) i
      rw [byteAt_eq, orA_eq, shl8_i64, e, w64s (i := i) (by omega)]
      exact ih
  unfold impl_wordAt.f
  have h := key 0 (by omega)
  rwa [show wrap64 (be (fun i => bt s ((p + i : Nat) : Int)) 0) = 0 from by simp only [be]; exact w64 (by omega) (by omega)] at h
theorem wordv_extract (s : ByteArray) (p : Nat) (h : p + 8 ≤ s.size) : wordv (s.extract p (p + 8)) 0 = wordv s p := by
  unfold wordv
  refine congrArg wrap64 (be_congr 8 (fun i hi => ?_))
  rw [Nat.zero_add]
  exact bt_extract s p (p + 8) i (by omega) h
theorem spec_l9Word_ev (s : ByteArray) (w : Nat) (h : 8 * w + 8 ≤ s.size) (hs : s.size ≤ 140737488355328) : Ev (fun k => spec_l9Word.f k s (w : Int)) (wordv s (8 * w)) := by
  unfold spec_l9Word.f
  rw [show wrap64 (8 * (w : Int)) = ((8 * w : Nat) : Int) from by rw [w64 (by omega) (by omega)]; omega, show wrap64 (((8 * w : Nat) : Int) + 8) = ((8 * w + 8 : Nat) : Int) from by rw [w64 (by omega) (by omega)]; omega]
  refine Ev.pos (by omega) (Ev.pos (by omega) (Ev.pos (by omega) (Ev.pos (by omega) ?_)))
  rw [Int.toNat_natCast, Int.toNat_natCast]
  refine Ev.bind (spec_ReadWord_ev _ (by rw [ByteArray.size_extract]; omega)) (Ev.eq ?_)
  exact wordv_extract s (8 * w) h
end Go.Proofs.YtlljkankongifaaDoor.Abs.Pu
namespace Go.Proofs.YtlljkankongifaaDoor.Abs.Pu
open Go Go.RowKit
set_option linter.unusedVariables false
set_option linter.unusedSectionVars false
set_option linter.unusedSimpArgs false
theorem objOk8_eq (types : List ByteArray) (o : Int × List Int) : objOkB types o = objOk8 types o := rfl
theorem type_at {types : List ByteArray} (ht : typesOk types = true) {t : Int} (h0 : 0 ≤ t) (h1 : t < types.length) : typeOk (rdOf ByteArray.empty types t) = true := by
  unfold typesOk at ht
  rw [Bool.and_eq_true, List.all_eq_true] at ht
  have h : t.toNat < types.length := by omega
  have e := rdg (d := ByteArray.empty) h
  rw [Int.toNat_of_nonneg h0] at e
  rw [e]
  exact ht.2 _ (List.getElem_mem h)
theorem spec_RunOf_ev {types : List ByteArray} (ht : typesOk types = true) {t : Int} (h0 : 0 ≤ t) (h1 : t < types.length) : Ev (fun k => spec_RunOf.f k (rdOf ByteArray.empty types t)) (runL types t : Int) := by
  have hz := type_size ht t
  unfold spec_RunOf.f
  refine Ev.bind (l3Type_ev _ (by omega)) (Ev.pos (type_at ht h0 h1) (Ev.eq ?_))
  unfold runL
  rw [w64 (x := 1 + ((rdOf ByteArray.empty types t).size : Int)) (by omega) (by omega), w64 (x := 1 + ((rdOf ByteArray.empty types t).size : Int) + 7) (by omega) (by omega), Int.tdiv_eq_ediv_of_nonneg (by omega), w64 (by omega) (by omega)]
  omega
theorem impl_runOf_f {types : List ByteArray} (ht : typesOk types = true) (t : Int) : impl_runOf.f (rdOf ByteArray.empty types t) = some (runL types t : Int) := by
  have hz := type_size ht t
  unfold impl_runOf.f runL
  rw [w64 (x := ((rdOf ByteArray.empty types t).size : Int) + 8) (by omega) (by omega), Int.tdiv_eq_ediv_of_nonneg (by omega), w64 (by omega) (by omega)]
  refine congrArg some ?_
  omega
def SB (l : List Int) : ByteArray := strOfNums (WL l)
theorem SB_size (l : List Int) : (SB l).size = 8 * l.length := by rw [SB, strOfNums_size, WL_length]
theorem SB_snoc (l : List Int) (n : Int) : SB (l ++ [n]) = SB l ++ wordB n := by
  unfold SB wordB
  rw [WL_append, strOfNums_append, WL, WL, List.append_nil]
theorem SB_one (n : Int) : wordB n = SB [n] := by
  unfold SB wordB
  rw [WL, WL, List.append_nil]
theorem objB8_eq (types : List ByteArray) (o : Int × List Int) : objB8 types o = SB ((o.1 + 1) :: o.2) ++ zerosB (64 * runL types o.1 - 8 * (o.2.length + 1)) := by
  unfold objB8 SB zerosB
  rw [strOfNums_append]
theorem spec_ObjectBytes_ev (types : List ByteArray) (o : Int × List Int) (hl : types.length ≤ 1048576) (hs : ∀ x ∈ types, x.size ≤ 1048576) : Ev (fun k => spec_ObjectBytes.f k types o.1 o.2) (bytesR types o) := by
  unfold spec_ObjectBytes.f bytesR
  refine Ev.bind (spec_ObjOk_ev types o hl hs) ?_
  rw [objOk8_eq]
  by_cases c : objOk8 types o = true
  rotate_left
  · rw [if_neg c]; exact Ev.neg c (Ev.eq rfl)
  rw [if_pos c]
  refine Ev.pos c ?_
  obtain ⟨ht, h0, h1, h2, h3, h4, h5⟩ := objOk8_facts c
  have hr := runL_bound ht o.1
  rw [w64 (x := o.1 + 1) (by omega) (by omega)]
  refine Ev.bind (spec_WordBytes_ev (o.1 + 1)) ?_
  rw [SB_one, objB8_eq]
  obtain ⟨tp, vals⟩ := o
  simp only [] at *
  have hrun := spec_RunOf_ev ht h0 h1
  have key : ∀ i, i ≤ vals.length → Ev (fun k => spec_ObjectBytes.p16 k types tp vals (SB ((tp + 1) :: vals.take i)) (i : Int)) (SB ((tp + 1) :: vals) ++ zerosB (64 * runL types tp - 8 * (vals.length + 1))) := by
    refine down ?_ ?_
    · refine Ev.step (fun k => by rw [spec_ObjectBytes.p16]) ?_
      rw [List.take_of_length_le (Nat.le_refl _)]
      have hz := SB_size ((tp + 1) :: vals)
      rw [List.length_cons] at hz
      have hzz := spec_l1Zeros_f (64 * runL types tp - 8 * (vals.length + 1)) (by omega)
      have hzs := zerosB_size (64 * runL types tp - 8 * (vals.length + 1))
      refine Ev.neg (by omega) (Ev.pos h0 (Ev.pos h1 (Ev.bind hrun ?_)))
      rw [w64 (x := 64 * (runL types tp : Int)) (by omega) (by omega), w64 (x := 64 * (runL types tp : Int) - ((SB ((tp + 1) :: vals)).size : Int)) (by omega) (by omega), show 64 * (runL types tp : Int) - ((SB ((tp + 1) :: vals)).size : Int) = ((64 * runL types tp - 8 * (vals.length + 1) : Nat) : Int) from by omega]
      exact Ev.bindo hzz (Ev.pos (by omega) (Ev.eq rfl))
    · intro i hi ih
      refine Ev.step (fun k => by rw [spec_ObjectBytes.p16]) ?_
      rw [rd_get hi, w64s (i := i) (by omega)]
      rw [take_snoc2 vals i hi, ← List.cons_append, SB_snoc] at ih
      have hz := SB_size ((tp + 1) :: vals.take i)
      rw [List.length_cons, List.length_take] at hz
      have hz2 := wordB_size vals[i]
      exact Ev.pos (by omega) (Ev.pos (by omega) (Ev.pos (by omega) (Ev.bind (spec_WordBytes_ev _) (Ev.pos (by omega) ih))))
  exact key 0 (Nat.zero_le _)
theorem impl_ObjectBytes_ev (types : List ByteArray) (o : Int × List Int) (hs : ∀ x ∈ types, x.size ≤ 1048576) : Ev (fun k => impl_ObjectBytes.f k types o.1 o.2) (bytesR types o) := by
  unfold impl_ObjectBytes.f bytesR
  refine Ev.bind (impl_ObjOk_ev types o hs) ?_
  rw [objOk8_eq]
  by_cases c : objOk8 types o = true
  rotate_left
  · rw [if_neg c]; exact Ev.neg c (Ev.eq rfl)
  rw [if_pos c]
  refine Ev.pos c (Ev.bind (a := objB8 types o) ?_ (Ev.eq rfl))
  obtain ⟨ht, h0, h1, h2, h3, h4, h5⟩ := objOk8_facts c
  have hr := runL_bound ht o.1
  unfold impl_objectBytes.f
  rw [w64 (x := o.1 + 1) (by omega) (by omega)]
  refine Ev.bind (impl_WordBytes_ev (o.1 + 1)) ?_
  rw [SB_one, objB8_eq]
  obtain ⟨tp, vals⟩ := o
  simp only [] at *
  have hrun := impl_runOf_f ht tp
  have key : ∀ i, i ≤ vals.length → Ev (fun k => impl_objectBytes.p8 k types tp vals (SB ((tp + 1) :: vals.take i)) vals (vals.length : Int) (i : Int)) (SB ((tp + 1) :: vals) ++ zerosB (64 * runL types tp - 8 * (vals.length + 1))) := by
    refine down ?_ ?_
    · refine Ev.step (fun k => by rw [impl_objectBytes.p8]) ?_
      rw [List.take_of_length_le (Nat.le_refl _)]
      have hz := SB_size ((tp + 1) :: vals)
      rw [List.length_cons] at hz
      have hzz := impl_zeros_f (64 * runL types tp - 8 * (vals.length + 1)) (by omega)
      have hzs := zerosB_size (64 * runL types tp - 8 * (vals.length + 1))
      refine Ev.neg (by omega) (Ev.pos h0 (Ev.pos h1 (Ev.bindo hrun ?_)))
      rw [w64 (x := 64 * (runL types tp : Int)) (by omega) (by omega), w64 (x := 64 * (runL types tp : Int) - ((SB ((tp + 1) :: vals)).size : Int)) (by omega) (by omega), show 64 * (runL types tp : Int) - ((SB ((tp + 1) :: vals)).size : Int) = ((64 * runL types tp - 8 * (vals.length + 1) : Nat) : Int) from by omega]
      exact Ev.bindo hzz (Ev.pos (by omega) (Ev.eq rfl))
    · intro i hi ih
      refine Ev.step (fun k => by rw [impl_objectBytes.p8]) ?_
      rw [rd_get hi, w64s (i := i) (by omega)]
      rw [take_snoc2 vals i hi, ← List.cons_append, SB_snoc] at ih
      have hz := SB_size ((tp + 1) :: vals.take i)
      rw [List.length_cons, List.length_take] at hz
      have hz2 := wordB_size vals[i]
      exact Ev.pos (by omega) (Ev.pos (by omega) (Ev.pos (by omega) (Ev.bind (impl_WordBytes_ev _) (Ev.pos (by omega) ih))))
  exact key 0 (Nat.zero_le _)
theorem valsOf_length (s : ByteArray) (n : Nat) : (valsOf s n).length = n := by simp [valsOf]
theorem valsOf_get (s : ByteArray) (n i : Nat) (h : i < (valsOf s n).length) : (valsOf s n)[i] = wordv s (8 + 8 * i) := by simp [valsOf]
theorem readR_no {types : List ByteArray} {s : ByteArray} (h : ¬ (typesOk types = true ∧ 64 ≤ s.size ∧ (1 ≤ wordv s 0 ∧ wordv s 0 ≤ types.length) ∧ s.size = 64 * runL types (wordv s 0 - 1) ∧ bytesR types (readO types s) = s)) : readR types s = ((0, []), false) := by
  unfold readR
  rw [if_neg h]
def out3 (r : (Int × List Int) × Bool) : Int × List Int × Bool := (r.1.1, r.1.2, r.2)
theorem spec_ReadObject_ev (types : List ByteArray) (s : ByteArray) (hl : types.length ≤ 1048576) (hs : ∀ x ∈ types, x.size ≤ 1048576) (hz : s.size ≤ 140737488355328) : Ev (fun k => spec_ReadObject.f k types s) (out3 (readR types s)) := by
  have bad : ∀ b, b = true → readR types s = ((0, []), false) → Ev (fun k => spec_ReadObject.p5 k types s 0 b) (out3 (readR types s)) := by
    intro b hb h
    refine Ev.step (fun k => by rw [spec_ReadObject.p5]) ?_
    rw [hb, h]
    exact Ev.pos rfl (Ev.eq rfl)
  unfold spec_ReadObject.f
  refine Ev.bind (spec_TypesOk_ev types hl hs) (Ev.cases (fun ht => ?_) (fun ht => bad _ rfl (readR_no (fun h => ht h.1))))
  have htl := types_len ht
  by_cases c : 64 ≤ s.size
  rotate_left
  · exact bad _ (decide_eq_true (by omega)) (readR_no (fun h => c h.2.1))
  rw [decide_eq_false (by omega)]
  refine Ev.step (fun k => by rw [spec_ReadObject.p5]) ?_
  refine Ev.neg (by simp) (Ev.pos (by omega) (Ev.bind (spec_ReadWord_ev _ (by rw [ByteArray.size_extract]; omega)) ?_))
  have hw := wordv_extract s 0 (by omega)
  rw [Nat.zero_add] at hw
  rw [hw]
  simp only []
  refine Ev.bindo (l1In_f _ _ _) (Ev.cases (fun c1 => ?_) (fun c1 => ?_))
  rotate_left
  · rw [readR_no (fun h => c1 (by simp; exact h.2.2.1))]
    exact Ev.eq rfl
  simp only [Bool.and_eq_true, decide_eq_true_eq] at c1
  have hb := runL_bound ht (wordv s 0 - 1)
  have hts := type_size ht (wordv s 0 - 1)
  rw [w64 (x := wordv s 0 - 1) (by omega) (by omega)]
  refine Ev.pos (by omega) (Ev.pos (by omega) (Ev.bind (spec_RunOf_ev ht (by omega) (by omega)) ?_))
  rw [w64 (x := 64 * (runL types (wordv s 0 - 1) : Int)) (by omega) (by omega)]
  by_cases c2 : s.size = 64 * runL types (wordv s 0 - 1)
  rotate_left
  · rw [readR_no (fun h => c2 h.2.2.2.1)]
    exact Ev.neg (by omega) (Ev.eq rfl)
  refine Ev.pos (by omega) ?_
  have hO := spec_ObjectBytes_ev types (readO types s) hl hs
  have key : ∀ i, i ≤ (rdOf ByteArray.empty types (wordv s 0 - 1)).size → Ev (fun k => spec_ReadObject.p26 k types s 0 (wordv s 0) (wordv s 0 - 1) ((valsOf s (rdOf ByteArray.empty types (wordv s 0 - 1)).size).take i) (i : Int)) (out3 (readR types s)) := by
    have hvl := valsOf_length s (rdOf ByteArray.empty types (wordv s 0 - 1)).size
    have hvg := valsOf_get s (rdOf ByteArray.empty types (wordv s 0 - 1)).size
    refine down ?_ ?_
    · refine Ev.step (fun k => by rw [spec_ReadObject.p26]) ?_
      rw [w64 (x := wordv s 0 - 1) (by omega) (by omega), List.take_of_length_le (by omega)]
      refine Ev.pos (by omega) (Ev.pos (by omega) (Ev.neg (by omega) (Ev.bind hO ?_)))
      by_cases c3 : bytesR types (readO types s) = s
      · refine Ev.pos (toList_inj.2 c3) (Ev.eq ?_)
        unfold readR
        rw [if_pos ⟨ht, c, c1, c2, c3⟩]
        rfl
      · rw [readR_no (fun h => c3 h.2.2.2.2)]
        exact Ev.neg (fun h => c3 (toList_inj.1 h)) (Ev.eq rfl)
    · intro i hi ih
      have hi2 : i < (valsOf s (rdOf ByteArray.empty types (wordv s 0 - 1)).size).length := by omega
      refine Ev.step (fun k => by rw [spec_ReadObject.p26]) ?_
      rw [take_snoc2 _ i hi2, hvg i hi2] at ih
      have hle : ((valsOf s (rdOf ByteArray.empty types (wordv s 0 - 1)).size).take i).length + 1 ≤ 17592186044416 := by rw [List.length_take]; omega
      generalize (valsOf s (rdOf ByteArray.empty types (wordv s 0 - 1)).size).take i = V at *
      rw [w64 (x := wordv s 0 - 1) (by omega) (by omega), w64s (i := i) (by omega), w64 (x := 8 * (i : Int)) (by omega) (by omega), w64 (x := 16 + 8 * (i : Int)) (by omega) (by omega), w64 (x := 8 + 8 * (i : Int)) (by omega) (by omega)]
      rw [show (8 + 8 * (i : Int)).toNat = 8 + 8 * i from by omega, show (16 + 8 * (i : Int)).toNat = 8 + 8 * i + 8 from by omega]
      refine Ev.pos (by omega) (Ev.pos (by omega) (Ev.pos (by omega) (Ev.pos (by omega) (Ev.pos (by omega) (Ev.pos (by omega) (Ev.pos (by omega) (Ev.bind (spec_ReadWord_ev _ (by rw [ByteArray.size_extract]; omega)) (Ev.pos hle ?_))))))))
      rw [wordv_extract s (8 + 8 * i) (by omega)]
      exact ih
  exact key 0 (Nat.zero_le _)
theorem impl_objectOf_ev {types : List ByteArray} (ht : typesOk types = true) {t : Int} (h0 : 0 ≤ t) (h1 : t < types.length) (s : ByteArray) (hs : s.size = 64 * runL types t) : Ev (fun k => impl_objectOf.f k types t s) (t, valsOf s (rdOf ByteArray.empty types t).size) := by
  have hb := runL_bound ht t
  have hts := type_size ht t
  have hvl := valsOf_length s (rdOf ByteArray.empty types t).size
  have hvg := valsOf_get s (rdOf ByteArray.empty types t).size
  have key : ∀ i, i ≤ (rdOf ByteArray.empty types t).size → Ev (fun k => impl_objectOf.p8 k s 0 t ((valsOf s (rdOf ByteArray.empty types t).size).take i) ((rdOf ByteArray.empty types t).size : Int) (i : Int)) (t, valsOf s (rdOf ByteArray.empty types t).size) := by
    refine down ?_ ?_
    · refine Ev.step (fun k => by rw [impl_objectOf.p8]) ?_
      rw [List.take_of_length_le (by omega)]
      exact Ev.neg (by omega) (Ev.eq rfl)
    · intro i hi ih
      have hi2 : i < (valsOf s (rdOf ByteArray.empty types t).size).length := by omega
      refine Ev.step (fun k => by rw [impl_objectOf.p8]) ?_
      rw [take_snoc2 _ i hi2, hvg i hi2] at ih
      have hle : ((valsOf s (rdOf ByteArray.empty types t).size).take i).length + 1 ≤ 17592186044416 := by rw [List.length_take]; omega
      rw [w64s (i := i) (by omega), w64 (x := 8 * (i : Int)) (by omega) (by omega), w64 (x := 8 + 8 * (i : Int)) (by omega) (by omega), show 8 + 8 * (i : Int) = ((8 + 8 * i : Nat) : Int) from by omega]
      exact Ev.pos (by omega) (Ev.bind (impl_wordAt_ev s (8 + 8 * i) (by omega) (by omega)) (Ev.pos hle ih))
  unfold impl_objectOf.f
  exact Ev.pos h0 (Ev.pos h1 (key 0 (Nat.zero_le _)))
theorem impl_ReadObject_ev (types : List ByteArray) (s : ByteArray) (hs : ∀ x ∈ types, x.size ≤ 1048576) (hz : s.size ≤ 140737488355328) : Ev (fun k => impl_ReadObject.f k types s) (out3 (readR types s)) := by
  have bad : ∀ b, b = true → readR types s = ((0, []), false) → Ev (fun k => impl_ReadObject.p5 k types s 0 b) (out3 (readR types s)) := by
    intro b hb h
    refine Ev.step (fun k => by rw [impl_ReadObject.p5]) ?_
    rw [hb, h]
    exact Ev.pos rfl (Ev.eq rfl)
  unfold impl_ReadObject.f
  refine Ev.bind (impl_TypesOk_ev types hs) (Ev.cases (fun ht => ?_) (fun ht => bad _ rfl (readR_no (fun h => ht h.1))))
  have htl := types_len ht
  by_cases c : 8 ≤ s.size
  rotate_left
  · exact bad _ (decide_eq_true (by omega)) (readR_no (fun h => by have := h.2.1; omega))
  rw [decide_eq_false (by omega)]
  refine Ev.step (fun k => by rw [impl_ReadObject.p5]) ?_
  refine Ev.neg (by simp) (Ev.bind (impl_wordAt_ev s 0 (by omega) hz) (Ev.bindo rfl (Ev.bindo (within_f _ _ _) ?_)))
  have bad2 : ∀ b, b = true → readR types s = ((0, []), false) → Ev (fun k => impl_ReadObject.p15 k types s 0 (wordv s 0) b) (out3 (readR types s)) := by
    intro b hb h
    refine Ev.step (fun k => by rw [impl_ReadObject.p15]) ?_
    rw [hb, h]
    exact Ev.pos rfl (Ev.eq rfl)
  refine Ev.cases (fun c1 => ?_) (fun c1 => bad2 _ rfl (readR_no (fun h => c1 (by simp; exact h.2.2.1))))
  simp only [Bool.and_eq_true, decide_eq_true_eq] at c1
  have hb := runL_bound ht (wordv s 0 - 1)
  have hts := type_size ht (wordv s 0 - 1)
  rw [w64 (x := wordv s 0 - 1) (by omega) (by omega)]
  refine Ev.pos (by omega) (Ev.pos (by omega) (Ev.bindo (impl_runOf_f ht _) ?_))
  rw [w64 (x := 64 * (runL types (wordv s 0 - 1) : Int)) (by omega) (by omega)]
  by_cases c2 : s.size = 64 * runL types (wordv s 0 - 1)
  rotate_left
  · exact bad2 _ (by rw [decide_eq_false (by omega)]; rfl) (readR_no (fun h => c2 h.2.2.2.1))
  rw [decide_eq_true (by omega)]
  refine Ev.step (fun k => by rw [impl_ReadObject.p15]) ?_
  rw [w64 (x := wordv s 0 - 1) (by omega) (by omega)]
  have hO := impl_ObjectBytes_ev types (readO types s) hs
  refine Ev.neg (by simp) (Ev.bind (impl_objectOf_ev ht (by omega) (by omega) s c2) (Ev.bind hO ?_))
  by_cases c3 : bytesR types (readO types s) = s
  · refine Ev.pos (toList_inj.2 c3) (Ev.eq ?_)
    unfold readR
    rw [if_pos ⟨ht, by omega, c1, c2, c3⟩]
    rfl
  · rw [readR_no (fun h => c3 h.2.2.2.2)]
    exact Ev.neg (fun h => c3 (toList_inj.1 h)) (Ev.eq rfl)
end Go.Proofs.YtlljkankongifaaDoor.Abs.Pu
namespace Go.Proofs.YtlljkankongifaaDoor.Abs
open Go Go.RowKit
set_option linter.unusedVariables false
set_option linter.unusedSectionVars false
set_option linter.unusedSimpArgs false
theorem szStringS_ev (l : List ByteArray) (hl : l.length ≤ maxLen) (hs : ∀ x ∈ l, x.size ≤ maxLen) (left : Int) (h0 : 0 ≤ left) (h1 : left ≤ 1048576) : ∃ r, Ev (fun k => laws_szStringS.f k l left) r ∧ (0 ≤ r → r ≤ left ∧ l.length ≤ 1048576 ∧ ∀ x ∈ l, x.size ≤ 1048576) := by
  unfold maxLen at hl hs
  unfold laws_szStringS.f
  rw [w64 (x := left - (l.length : Int)) (by omega) (by omega)]
  by_cases c : left - (l.length : Int) < 0
  · exact ⟨-1, Ev.pos c (Ev.eq rfl), fun h => by omega⟩
  · have key : ∀ left : Int, 0 ≤ left → left ≤ 1048576 → ∃ r, Ev (fun k => laws_szStringS.p16 k l left 0) r ∧ (0 ≤ r → r ≤ left ∧ ∀ x ∈ l, (fun x => x.size ≤ 1048576) x) := by
      refine sz_loop (g := fun k left i => laws_szStringS.p16 k l left i) (by omega) (fun i hi left h0 h1 => ?_) (fun left => ?_)
      · have hx := hs _ (List.getElem_mem hi)
        have hg : rdOf ByteArray.empty l (i : Int) = l[i] := rdg hi
        generalize l[i] = x at *
        by_cases c2 : left - (x.size : Int) < 0
        · refine .inl ⟨-1, by omega, Ev.step (fun k => by rw [laws_szStringS.p16]) ?_⟩
          rw [hg, w64 (x := left - (x.size : Int)) (by omega) (by omega)]
          exact Ev.pos (by omega) (Ev.pos (by omega) (Ev.pos (by omega) (Ev.pos c2 (Ev.eq rfl))))
        · refine .inr ⟨left - (x.size : Int), by omega, by omega, by omega, fun r hr => Ev.step (fun k => by rw [laws_szStringS.p16]) ?_⟩
          rw [hg, w64 (x := left - (x.size : Int)) (by omega) (by omega), w64s (by omega)]
          exact Ev.pos (by omega) (Ev.pos (by omega) (Ev.pos (by omega) (Ev.neg c2 hr)))
      · refine Ev.step (fun k => by rw [laws_szStringS.p16]) ?_
        exact Ev.neg (by omega) (Ev.eq rfl)
    obtain ⟨r, hr, hp⟩ := key (left - (l.length : Int)) (by omega) (by omega)
    exact ⟨r, Ev.neg c hr, fun h => ⟨by have := (hp h).1; omega, by omega, (hp h).2⟩⟩
theorem toStringS_ev (l : List ByteArray) (hl : l.length ≤ 1048576) : Ev (fun k => laws_toStringS.f k l) l := by
  unfold laws_toStringS.f
  refine Ev.pos (by omega) (Ev.pos (by omega) ?_)
  rw [Int.toNat_natCast]
  refine fill_ev (g := fun k out i => laws_toStringS.p8 k l out i) _ (fun i hi out ho r hr => ?_) (fun out ho => ?_)
  · refine Ev.step (fun k => by rw [laws_toStringS.p8]) ?_
    rw [rdg hi, w64s (by omega), Int.toNat_natCast]
    exact Ev.pos (by omega) (Ev.pos (by omega) (Ev.pos (by omega) (Ev.pos (by omega) (Ev.pos (by omega) hr))))
  · refine Ev.step (fun k => by rw [laws_toStringS.p8]) ?_
    exact Ev.neg (by omega) (Ev.eq rfl)
theorem eqStringS_ev (l : List ByteArray) (hl : l.length ≤ 1048576) : Ev (fun k => laws_eqStringS.f k l l) true := by
  unfold laws_eqStringS.f
  refine Ev.pos rfl ?_
  refine each_ev (n := l.length) (g := fun k i => laws_eqStringS.p14 k l l i) (fun i hi hr => ?_) ?_
  · refine Ev.step (fun k => by rw [laws_eqStringS.p14]) ?_
    rw [w64s (by omega)]
    exact Ev.pos (by omega) (Ev.pos (by omega) (Ev.pos (by omega) (Ev.pos (by omega) (Ev.pos (by omega) (Ev.pos rfl hr)))))
  · refine Ev.step (fun k => by rw [laws_eqStringS.p14]) ?_
    exact Ev.neg (by omega) (Ev.eq rfl)
end Go.Proofs.YtlljkankongifaaDoor.Abs
namespace Go.Proofs.YtlljkankongifaaDoor.Abs.Pu
open Go Go.RowKit
set_option linter.unusedVariables false
set_option linter.unusedSectionVars false
set_option linter.unusedSimpArgs false
theorem markText_ev (n : Int) (h0 : 1 ≤ n) (h1 : n ≤ 1099511627776) : ∃ s, Ev (fun k => laws_markText.f k n) s := by
  have lp : ∀ (d : Nat) (x : Int) (acc : ByteArray), x.toNat ≤ d → 0 ≤ x → (acc.size : Int) + x ≤ 1099511627776 → ∃ s, Ev (fun k => laws_markText.p14 k x acc) s := by
    intro d
    induction d with
    | zero =>
      intro x acc hd hx ha
      refine ⟨_, Ev.step (fun k => by rw [laws_markText.p14]) (Ev.neg (by omega) (Ev.pos ?_ (Ev.eq rfl)))⟩
      show 1 + acc.size ≤ _
      omega
    | succ d ih =>
      intro x acc hd hx ha
      by_cases c : x > 0
      · have hz : (strOf [(wrap64 (48 + (Int.tmod x 10))) % 256]).size = 1 := by rw [strOf_eq, strOfNums_size]; rfl
        have e : wrap64 (Int.tdiv x 10) = x / 10 := by rw [Int.tdiv_eq_ediv_of_nonneg (by omega), w64 (by omega) (by omega)]
        obtain ⟨s, hs⟩ := ih (x / 10) (strOf [(wrap64 (48 + (Int.tmod x 10))) % 256] ++ acc) (by omega) (by omega) (by rw [ByteArray.size_append, hz]; omega)
        refine ⟨s, Ev.step (fun k => by rw [laws_markText.p14]) ?_⟩
        rw [e]
        exact Ev.pos c (Ev.pos (by rw [hz]; omega) hs)
      · refine ⟨_, Ev.step (fun k => by rw [laws_markText.p14]) (Ev.neg c (Ev.pos ?_ (Ev.eq rfl)))⟩
        show 1 + acc.size ≤ _
        omega
  obtain ⟨s, hs⟩ := lp n.toNat n ⟨#[]⟩ (Nat.le_refl _) (by omega) (by show ((0 : Nat) : Int) + n ≤ _; omega)
  refine ⟨s, ?_⟩
  unfold laws_markText.f
  exact Ev.neg (by omega) hs
theorem markStringS_ev (l : List ByteArray) (m : Int) (h0 : 1 ≤ m) (h1 : m ≤ 1048577) (hl : l.length ≤ 1048576) : ∃ l', Ev (fun k => laws_markStringS.f k l m) (l', m + (l.length : Int)) := by
  have key : ∀ i, i ≤ l.length → ∀ x : List ByteArray, x.length = l.length → ∃ l', Ev (fun k => laws_markStringS.p6 k x (m + (i : Int)) (i : Int)) (l', m + (l.length : Int)) := by
    refine down ?_ ?_
    · intro x hx
      exact ⟨x, Ev.step (fun k => by rw [laws_markStringS.p6]) (Ev.neg (by omega) (Ev.eq rfl))⟩
    · intro i hi ih x hx
      obtain ⟨s, hs⟩ := markText_ev (m + (i : Int)) (by omega) (by omega)
      obtain ⟨l', h⟩ := ih (x.set i s) (by rw [List.length_set]; exact hx)
      refine ⟨l', Ev.step (fun k => by rw [laws_markStringS.p6]) ?_⟩
      rw [w64s (i := i) (by omega), show wrap64 (m + (i : Int) + 1) = m + ((i + 1 : Nat) : Int) from by rw [w64 (by omega) (by omega)]; omega, Int.toNat_natCast]
      exact Ev.pos (by omega) (Ev.bind hs (Ev.pos (by omega) (Ev.pos (by omega) h)))
  unfold laws_markStringS.f
  have := key 0 (Nat.zero_le _) l rfl
  rwa [show m + ((0 : Nat) : Int) = m from by omega] at this
end Go.Proofs.YtlljkankongifaaDoor.Abs.Pu
namespace Go.Proofs.YtlljkankongifaaDoor.Abs.Pu
open Go Go.RowKit
set_option linter.unusedVariables false
set_option linter.unusedSectionVars false
set_option linter.unusedSimpArgs false
abbrev Cfg := Int × Int × Int × List ByteArray
def configOk (c : Cfg) : Bool := (decide (8 ≤ c.1) && decide (c.1 ≤ 128)) && ((decide (1 ≤ c.2.1) && decide (c.2.1 ≤ 32 ∧ c.2.1 ≤ c.1 - 5)) && ((decide (2 ≤ c.2.2.1) && decide (c.2.2.1 ≤ 400)) && typesOk c.2.2.2))
theorem impl_ConfigOk_ev (c : Cfg) (hs : ∀ x ∈ c.2.2.2, x.size ≤ 1048576) : Ev (fun k => impl_ConfigOk.f k c.1 c.2.1 c.2.2.1 c.2.2.2) (configOk c) := by
  unfold impl_ConfigOk.f configOk
  refine Ev.bindo (within_f _ _ _) (Ev.cases (fun h => ?_) (fun h => by rw [Bool.eq_false_iff.2 h, Bool.false_and]; exact Ev.eq rfl))
  rw [h, Bool.true_and]
  simp only [Bool.and_eq_true, decide_eq_true_eq] at h
  rw [w64 (x := c.1 - 5) (by omega) (by omega)]
  have e : (decide (1 ≤ c.2.1) && decide (c.2.1 ≤ (if c.1 - 5 < 32 then c.1 - 5 else 32))) = (decide (1 ≤ c.2.1) && decide (c.2.1 ≤ 32 ∧ c.2.1 ≤ c.1 - 5)) := by
    congr 1
    rw [decide_eq_decide]
    split <;> omega
  refine Ev.bindo (within_f _ _ _) ?_
  rw [e]
  refine Ev.cases (fun h2 => ?_) (fun h2 => by rw [Bool.eq_false_iff.2 h2, Bool.false_and]; exact Ev.eq rfl)
  rw [h2, Bool.true_and]
  refine Ev.bindo (within_f _ _ _) (Ev.cases (fun h3 => ?_) (fun h3 => by rw [Bool.eq_false_iff.2 h3, Bool.false_and]; exact Ev.eq rfl))
  rw [h3, Bool.true_and]
  exact Ev.bind (impl_TypesOk_ev _ hs) (Ev.eq rfl)
theorem spec_ConfigOk_ev (c : Cfg) (hl : c.2.2.2.length ≤ 1048576) (hs : ∀ x ∈ c.2.2.2, x.size ≤ 1048576) : Ev (fun k => spec_ConfigOk.f k c.1 c.2.1 c.2.2.1 c.2.2.2) (configOk c) := by
  unfold spec_ConfigOk.f configOk
  refine Ev.bindo (l1In_f _ _ _) (Ev.cases (fun h => ?_) (fun h => by rw [Bool.eq_false_iff.2 h, Bool.false_and]; exact Ev.eq rfl))
  rw [h, Bool.true_and]
  simp only [Bool.and_eq_true, decide_eq_true_eq] at h
  rw [w64 (x := c.1 - 5) (by omega) (by omega)]
  refine Ev.bindo (l1In_f _ _ _) (Ev.cases (fun h2 => ?_) (fun h2 => ?_))
  · simp only [Bool.and_eq_true, decide_eq_true_eq] at h2
    refine Ev.cases (fun h4 => ?_) (fun h4 => ?_)
    · rw [decide_eq_true h2.1, decide_eq_true (show c.2.1 ≤ 32 ∧ c.2.1 ≤ c.1 - 5 from ⟨h2.2, h4⟩), Bool.true_and, Bool.true_and]
      refine Ev.bindo (l1In_f _ _ _) (Ev.cases (fun h3 => ?_) (fun h3 => by rw [Bool.eq_false_iff.2 h3, Bool.false_and]; exact Ev.eq rfl))
      rw [h3, Bool.true_and]
      exact Ev.bind (spec_TypesOk_ev _ hl hs) (Ev.eq rfl)
    · rw [decide_eq_false (show ¬ (c.2.1 ≤ 32 ∧ c.2.1 ≤ c.1 - 5) from fun h => h4 h.2), Bool.and_false, Bool.false_and]
      exact Ev.eq rfl
  · have : (decide (1 ≤ c.2.1) && decide (c.2.1 ≤ 32 ∧ c.2.1 ≤ c.1 - 5)) = false := by
      rw [Bool.eq_false_iff]
      intro h3
      apply h2
      simp only [Bool.and_eq_true, decide_eq_true_eq] at h3 ⊢
      omega
    rw [this, Bool.false_and]
    exact Ev.eq rfl
theorem configOk_facts {c : Cfg} (h : configOk c = true) : 8 ≤ c.1 ∧ c.1 ≤ 128 ∧ 1 ≤ c.2.1 ∧ c.2.1 ≤ 32 ∧ c.2.1 ≤ c.1 - 5 ∧ 2 ≤ c.2.2.1 ∧ c.2.2.1 ≤ 400 ∧ typesOk c.2.2.2 = true := by
  unfold configOk at h
  simp only [Bool.and_eq_true, decide_eq_true_eq] at h
  exact ⟨h.1.1, h.1.2, h.2.1.1, h.2.1.2.1, h.2.1.2.2, h.2.2.1.1, h.2.2.1.2, h.2.2.2⟩
theorem szConfig_ev (c : Cfg) (hl : c.2.2.2.length ≤ maxLen) (hs : ∀ x ∈ c.2.2.2, x.size ≤ maxLen) (left : Int) (h0 : 0 ≤ left) (h1 : left ≤ 1048576) : ∃ r, Ev (fun k => laws_szConfig.f k c.1 c.2.1 c.2.2.1 c.2.2.2 left) r ∧ (0 ≤ r → r ≤ left ∧ c.2.2.2.length ≤ 1048576 ∧ ∀ x ∈ c.2.2.2, x.size ≤ 1048576) := by
  unfold laws_szConfig.f
  obtain ⟨r, e, hr⟩ := szStringS_ev c.2.2.2 hl hs left h0 h1
  by_cases h : r < 0
  · exact ⟨-1, Ev.bind e (Ev.pos h (Ev.eq rfl)), fun h => by omega⟩
  · exact ⟨r, Ev.bind e (Ev.neg h (Ev.eq rfl)), hr⟩
theorem toConfig_ev (c : Cfg) (hl : c.2.2.2.length ≤ 1048576) : Ev (fun k => laws_toConfig.f k c.1 c.2.1 c.2.2.1 c.2.2.2) c := by
  unfold laws_toConfig.f
  exact Ev.bind (toStringS_ev _ hl) (Ev.eq rfl)
theorem eqConfig_ev (c : Cfg) (hl : c.2.2.2.length ≤ 1048576) : Ev (fun k => laws_eqConfig.f k c.1 c.2.1 c.2.2.1 c.2.2.2 c.1 c.2.1 c.2.2.1 c.2.2.2) true := by
  unfold laws_eqConfig.f
  exact Ev.pos rfl (Ev.pos rfl (Ev.pos rfl (Ev.bind (eqStringS_ev _ hl) (Ev.pos rfl (Ev.eq rfl)))))
end Go.Proofs.YtlljkankongifaaDoor.Abs.Pu
namespace Go.Proofs.YtlljkankongifaaDoor.Abs.Pu
open Go Go.RowKit
set_option linter.unusedVariables false
set_option linter.unusedSectionVars false
set_option linter.unusedSimpArgs false
def planF (c : Cfg) : List Int → ByteArray → List Int → Option (List Int × ByteArray)
  | [], m, out => some (out, m)
  | t :: ts, m, out =>
    if findRun m (4 + c.2.1) c.1 (runL c.2.2.2 t) < 0 then none else planF c ts (changed m true (findRun m (4 + c.2.1) c.1 (runL c.2.2.2 t)).toNat (runL c.2.2.2 t)) (out ++ [findRun m (4 + c.2.1) c.1 (runL c.2.2.2 t)])
def isTy (c : Cfg) (t : Int) : Bool := decide (0 ≤ t) && decide (t ≤ (c.2.2.2.length : Int) - 1)
def fin2 : Option (List Int × ByteArray) → List Int × ByteArray × Bool
  | some (l, m) => (l, m, true)
  | none => ([], ⟨#[]⟩, false)
/-- A run that is found. -/
theorem find_yes {c : Cfg} {m : ByteArray} {n : Nat} (hc : configOk c = true) (hm : mapOk m) (hn : 1 ≤ n ∧ n ≤ 3) (h : ¬ findRun m (4 + c.2.1) c.1 n < 0) : ∃ x : Nat, findRun m (4 + c.2.1) c.1 n = (x : Int) ∧ 4 + c.2.1 ≤ x ∧ (x : Int) + n ≤ c.1 ∧ x + n ≤ 128 ∧ (∀ j : Nat, x ≤ j → j < x + n → tkn m (j : Int) = false) ∧ mapOk (changed m true x n) ∧ strOfNums (turnL (bytesOf m) x n) = changed m true x n := by
  have hf := configOk_facts hc
  have hF := findRun_first (s := m) (a := 4 + c.2.1) (b := c.1) (n := n) ⟨hm, by omega, by omega, by omega⟩ (by omega)
  rcases hF with ⟨e, _⟩ | ⟨h1, h2, h3, _⟩
  · omega
  · obtain ⟨x, hx⟩ := Int.eq_ofNat_of_zero_le (show 0 ≤ findRun m (4 + c.2.1) c.1 n by omega)
    have hx : findRun m (4 + c.2.1) c.1 n = (x : Int) := hx
    rw [hx] at h1 h2 h3
    have hfree : ∀ j : Nat, x ≤ j → j < x + n → tkn m (j : Int) = false := fun j a0 a1 => h3 j (by omega) (by omega)
    exact ⟨x, hx, h1, h2, by omega, hfree, (changed_map hm x n true (by omega)).1, turned_is hm (by omega) hfree⟩
theorem impl_planned_ev (c : Cfg) (m : ByteArray) (types : List Int) (hc : configOk c = true) (hm : mapOk m) (hall : ∀ t ∈ types, isTy c t = true) (hl : types.length ≤ 1048576) : Ev (fun k => impl_planned.f k c.1 c.2.1 c.2.2.1 c.2.2.2 m types) (fin2 (planF c types m [])) := by
  have hf := configOk_facts hc
  have ht := hf.2.2.2.2.2.2.2
  have key : ∀ (l : List Int) (q : Nat) (m : ByteArray) (out : List Int), q ≤ types.length → l = types.drop q → out.length = q → mapOk m → (∀ t ∈ l, isTy c t = true) → Ev (fun k => impl_planned.p8 k m c.1 c.2.1 c.2.2.1 c.2.2.2 out types (types.length : Int) (q : Int)) (fin2 (planF c l m out)) := by
    intro l
    induction l with
    | nil =>
      intro q m out hq hl' ho hm hd
      have hqe : q = types.length := by
        have := congrArg List.length hl'
        rw [List.length_nil, List.length_drop] at this
        omega
      refine Ev.step (fun k => by rw [impl_planned.p8]) ?_
      exact Ev.neg (by omega) (Ev.eq rfl)
    | cons t l ihl =>
      intro q m out hq hl' ho hm hd
      have hq2 : q < types.length := by
        have := congrArg List.length hl'
        rw [List.length_cons, List.length_drop] at this
        omega
      rw [List.drop_eq_getElem_cons hq2] at hl'
      injection hl' with hv1 hl1
      have ht1 := hd t (by simp)
      unfold isTy at ht1
      simp only [Bool.and_eq_true, decide_eq_true_eq] at ht1
      have hb := runL_bound ht t
      refine Ev.step (fun k => by rw [impl_planned.p8]) ?_
      rw [rd_get hq2, ← hv1, w64s (i := q) (by omega), w64 (x := 4 + c.2.1) (by omega) (by omega), planF]
      refine Ev.pos (by omega) (Ev.pos (by omega) (Ev.pos (by omega) (Ev.pos (by omega) (Ev.pos (by omega) (Ev.bindo (impl_runOf_f ht t) (Ev.bind (impl_FindRun_ev m _ _ _) ?_))))))
      by_cases c1 : findRun m (4 + c.2.1) c.1 (runL c.2.2.2 t) < 0
      · rw [if_pos c1]
        exact Ev.pos c1 (Ev.eq rfl)
      · rw [if_neg c1]
        obtain ⟨x, hx, h1, h2, h3, h4, h5, h6⟩ := find_yes hc hm (by omega) c1
        refine Ev.neg c1 ?_
        rw [hx, Int.toNat_natCast]
        have hms := hm.1
        exact Ev.bind (changedMap_ev m x _ (by omega) (by omega)) (Ev.pos (by omega) (ihl (q + 1) _ _ (by omega) hl1 (by simp [ho]) h5 (fun y hy => hd y (List.mem_cons_of_mem _ hy))))
  unfold impl_planned.f
  exact key types 0 m [] (by omega) rfl rfl hm hall
theorem spec_l10Plan_ev (c : Cfg) (m : ByteArray) (types : List Int) (hc : configOk c = true) (hm : mapOk m) (hall : ∀ t ∈ types, isTy c t = true) (hl : types.length ≤ 1048576) : Ev (fun k => spec_l10Plan.f k c.1 c.2.1 c.2.2.1 c.2.2.2 m types) (fin2 (planF c types m [])) := by
  have hf := configOk_facts hc
  have ht := hf.2.2.2.2.2.2.2
  have key : ∀ (l : List Int) (q : Nat) (m : ByteArray) (out : List Int), q ≤ types.length → l = types.drop q → out.length = q → mapOk m → (∀ t ∈ l, isTy c t = true) → Ev (fun k => spec_l10Plan.p8 k m types c.1 c.2.1 c.2.2.1 c.2.2.2 out (q : Int)) (fin2 (planF c l m out)) := by
    intro l
    induction l with
    | nil =>
      intro q m out hq hl' ho hm hd
      have hqe : q = types.length := by
        have := congrArg List.length hl'
        rw [List.length_nil, List.length_drop] at this
        omega
      refine Ev.step (fun k => by rw [spec_l10Plan.p8]) ?_
      exact Ev.neg (by omega) (Ev.eq rfl)
    | cons t l ihl =>
      intro q m out hq hl' ho hm hd
      have hq2 : q < types.length := by
        have := congrArg List.length hl'
        rw [List.length_cons, List.length_drop] at this
        omega
      rw [List.drop_eq_getElem_cons hq2] at hl'
      injection hl' with hv1 hl1
      have ht1 := hd t (by simp)
      unfold isTy at ht1
      simp only [Bool.and_eq_true, decide_eq_true_eq] at ht1
      have hb := runL_bound ht t
      refine Ev.step (fun k => by rw [spec_l10Plan.p8]) ?_
      rw [rd_get hq2, ← hv1, w64s (i := q) (by omega), w64 (x := 4 + c.2.1) (by omega) (by omega), planF]
      refine Ev.pos (by omega) (Ev.pos (by omega) (Ev.pos (by omega) (Ev.pos (by omega) (Ev.pos (by omega) (Ev.bind (spec_RunOf_ev ht (by omega) (by omega)) (Ev.bind (spec_FindRun_ev m _ _ _) ?_))))))
      by_cases c1 : findRun m (4 + c.2.1) c.1 (runL c.2.2.2 t) < 0
      · rw [if_pos c1]
        exact Ev.pos c1 (Ev.eq rfl)
      · rw [if_neg c1]
        obtain ⟨x, hx, h1, h2, h3, h4, h5, h6⟩ := find_yes hc hm (by omega) c1
        refine Ev.neg c1 ?_
        rw [hx, Int.toNat_natCast]
        have hms := hm.1
        have hT := l6Turn_ev m x (runL c.2.2.2 t) (by omega) (by omega)
        rw [h6] at hT
        exact Ev.bind hT (Ev.pos (by omega) (ihl (q + 1) _ _ (by omega) hl1 (by simp [ho]) h5 (fun y hy => hd y (List.mem_cons_of_mem _ hy))))
  unfold spec_l10Plan.f
  exact key types 0 m [] (by omega) rfl rfl hm hall
def plannedR (c : Cfg) (m : ByteArray) (types : List Int) : List Int × Bool :=
  if configOk c = true ∧ mapOk m ∧ types.length ≤ 400 ∧ types.all (isTy c) = true then ((fin2 (planF c types m [])).1, (fin2 (planF c types m [])).2.2) else ([], false)
theorem planF_length (c : Cfg) : ∀ (ts : List Int) (m : ByteArray) (out : List Int) {l m'}, planF c ts m out = some (l, m') → l.length = out.length + ts.length
  | [], m, out, l, m', h => by
    rw [planF] at h
    injection h with h
    injection h with h1 h2
    rw [← h1]; rfl
  | t :: ts, m, out, l, m', h => by
    rw [planF] at h
    split at h
    · cases h
    · rw [planF_length c ts _ _ h, List.length_append, List.length_singleton, List.length_cons]
      omega
theorem plannedR_length (c : Cfg) (m : ByteArray) (types : List Int) : (plannedR c m types).1.length ≤ 400 := by
  unfold plannedR
  split
  · rename_i h
    cases h2 : planF c types m [] with
    | none => exact Nat.zero_le _
    | some r =>
      have := planF_length c types m [] (l := r.1) (m' := r.2) h2
      show r.1.length ≤ 400
      rw [this]
      have := h.2.2.1
      simp only [List.length_nil]; omega
  · exact Nat.zero_le _
theorem impl_Planned_ev (c : Cfg) (m : ByteArray) (types : List Int) (hs : ∀ x ∈ c.2.2.2, x.size ≤ 1048576) (hl : types.length ≤ 1048576) : Ev (fun k => impl_Planned.f k c.1 c.2.1 c.2.2.1 c.2.2.2 m types) (plannedR c m types) := by
  unfold impl_Planned.f plannedR
  refine Ev.bind (impl_ConfigOk_ev c hs) (Ev.cases (fun hc => ?_) (fun hc => by rw [if_neg (fun h => hc h.1)]; exact Ev.eq rfl))
  have hf := configOk_facts hc
  have ht := hf.2.2.2.2.2.2.2
  have htl := types_len ht
  refine Ev.bindo (impl_isMap_f m) (Ev.cases (fun hm => ?_) (fun hm => by rw [if_neg (fun h => hm (decide_eq_true h.2.1))]; exact Ev.eq rfl))
  have hm : mapOk m := of_decide_eq_true hm
  by_cases k : types.length ≤ 400
  rotate_left
  · rw [if_neg (fun h => k h.2.2.1)]
    exact Ev.pos (by omega) (Ev.eq rfl)
  refine Ev.neg (by omega) ?_
  have hany : Ev (fun k => slices_ContainsFunc_int64_at_impl_Planned_1.f k types (c.1, (c.2.1, (c.2.2.1, c.2.2.2)))) (types.any fun x => !isTy c x) := by
    unfold slices_ContainsFunc_int64_at_impl_Planned_1.f slices_IndexFunc_int64_at_impl_Planned_1.f
    refine contains_ev (d := 0) (l := types) (by omega) (g := fun k i => slices_IndexFunc_int64_at_impl_Planned_1.p6 k types (c.1, (c.2.1, (c.2.2.1, c.2.2.2))) (types.length : Int) i) (t := fun _ x => impl_Planned_1.f x (c.1, (c.2.1, (c.2.2.1, c.2.2.2)))) (f := fun x => !isTy c x) (fun k i => by rw [slices_IndexFunc_int64_at_impl_Planned_1.p6]; rfl) (fun x hx => ?_)
    unfold impl_Planned_1.f impl_size_string.f isTy
    refine Ev.bindo rfl ?_
    simp only []
    rw [w64 (x := (c.2.2.2.length : Int) - 1) (by omega) (by omega)]
    exact Ev.bindo (within_f _ _ _) (Ev.eq rfl)
  refine Ev.bind hany ?_
  by_cases h2 : types.all (isTy c) = true
  rotate_left
  · rw [if_neg (fun h => h2 h.2.2.2)]
    refine Ev.pos ?_ (Ev.eq rfl)
    rw [List.all_eq_not_any_not] at h2
    simpa using h2
  rw [if_pos ⟨hc, hm, k, h2⟩]
  have h3 := List.all_eq_true.1 h2
  refine Ev.neg (by rw [List.all_eq_not_any_not] at h2; simpa using h2) (Ev.bind (impl_planned_ev c m types hc hm h3 hl) (Ev.eq rfl))
theorem spec_Planned_ev (c : Cfg) (m : ByteArray) (types : List Int) (hcl : c.2.2.2.length ≤ 1048576) (hs : ∀ x ∈ c.2.2.2, x.size ≤ 1048576) (hl : types.length ≤ 1048576) : Ev (fun k => spec_Planned.f k c.1 c.2.1 c.2.2.1 c.2.2.2 m types) (plannedR c m types) := by
  unfold spec_Planned.f plannedR
  refine Ev.bind (spec_ConfigOk_ev c hcl hs) (Ev.cases (fun hc => ?_) (fun hc => by rw [if_neg (fun h => hc h.1)]; exact Ev.eq rfl))
  have hf := configOk_facts hc
  have ht := hf.2.2.2.2.2.2.2
  have htl := types_len ht
  refine Ev.bindo (spec_l6Map_f m) (Ev.cases (fun hm => ?_) (fun hm => by rw [if_neg (fun h => hm (decide_eq_true h.2.1))]; exact Ev.eq rfl))
  have hm : mapOk m := of_decide_eq_true hm
  by_cases k : types.length ≤ 400
  rotate_left
  · rw [if_neg (fun h => k h.2.2.1)]
    exact Ev.pos (by omega) (Ev.eq rfl)
  refine Ev.neg (by omega) ?_
  have key : ∀ i, i ≤ types.length → (∀ t ∈ types.take i, isTy c t = true) → Ev (fun k => spec_Planned.p14 k m types c.1 c.2.1 c.2.2.1 c.2.2.2 (i : Int)) (if configOk c = true ∧ mapOk m ∧ types.length ≤ 400 ∧ types.all (isTy c) = true then ((fin2 (planF c types m [])).1, (fin2 (planF c types m [])).2.2) else ([], false)) := by
    refine down ?_ ?_
    · intro h
      rw [List.take_of_length_le (Nat.le_refl _)] at h
      rw [if_pos ⟨hc, hm, k, List.all_eq_true.2 h⟩]
      refine Ev.step (fun k => by rw [spec_Planned.p14]) ?_
      exact Ev.neg (by omega) (Ev.bind (spec_l10Plan_ev c m types hc hm h hl) (Ev.eq rfl))
    · intro i hi ih h
      refine Ev.step (fun k => by rw [spec_Planned.p14]) ?_
      rw [rd_get hi, w64s (i := i) (by omega), w64 (x := (c.2.2.2.length : Int) - 1) (by omega) (by omega)]
      refine Ev.pos (by omega) (Ev.pos (by omega) (Ev.pos (by omega) (Ev.bindo (l1In_f _ _ _) (Ev.cases (fun c3 => ih (fun t h2 => ?_)) (fun c3 => ?_)))))
      · rw [take_snoc2 types i hi, List.mem_append, List.mem_singleton] at h2
        rcases h2 with h2 | rfl
        · exact h t h2
        · exact c3
      · rw [if_neg (fun h => c3 (show isTy c types[i] = true from List.all_eq_true.1 h.2.2.2 _ (List.getElem_mem hi)))]
        exact Ev.eq rfl
  exact key 0 (Nat.zero_le _) (by simp)
end Go.Proofs.YtlljkankongifaaDoor.Abs.Pu
namespace Go.Proofs.YtlljkankongifaaDoor.Abs
open Go Go.RowKit
set_option linter.unusedVariables false
set_option linter.unusedSectionVars false
set_option linter.unusedSimpArgs false
theorem eqInt64S_ev (l : List Int) (hl : l.length ≤ 1048576) : Ev (fun k => laws_eqInt64S.f k l l) true := by
  unfold laws_eqInt64S.f
  refine Ev.pos rfl ?_
  refine each_ev (n := l.length) (g := fun k i => laws_eqInt64S.p14 k l l i) (fun i hi hr => ?_) ?_
  · refine Ev.step (fun k => by rw [laws_eqInt64S.p14]) ?_
    rw [w64s (by omega)]
    exact Ev.pos (by omega) (Ev.pos (by omega) (Ev.pos (by omega) (Ev.pos (by omega) (Ev.pos (by omega) (Ev.pos rfl hr)))))
  · refine Ev.step (fun k => by rw [laws_eqInt64S.p14]) ?_
    exact Ev.neg (by omega) (Ev.eq rfl)
end Go.Proofs.YtlljkankongifaaDoor.Abs
namespace Go.Proofs.YtlljkankongifaaDoor.Abs
open Go Go.RowKit
set_option linter.unusedVariables false
set_option linter.unusedSectionVars false
set_option linter.unusedSimpArgs false
theorem toInt64S_ev (l : List Int) (hl : l.length ≤ 1048576) : Ev (fun k => laws_toInt64S.f k l) l := by
  unfold laws_toInt64S.f
  refine Ev.pos (by omega) (Ev.pos (by omega) ?_)
  rw [Int.toNat_natCast]
  refine fill_ev (g := fun k out i => laws_toInt64S.p8 k l out i) _ (fun i hi out ho r hr => ?_) (fun out ho => ?_)
  · refine Ev.step (fun k => by rw [laws_toInt64S.p8]) ?_
    rw [rd_get hi, w64s (by omega), Int.toNat_natCast]
    exact Ev.pos (by omega) (Ev.pos (by omega) (Ev.pos (by omega) (Ev.pos (by omega) (Ev.pos (by omega) hr))))
  · refine Ev.step (fun k => by rw [laws_toInt64S.p8]) ?_
    exact Ev.neg (by omega) (Ev.eq rfl)
end Go.Proofs.YtlljkankongifaaDoor.Abs
namespace Go.Proofs.YtlljkankongifaaDoor.Abs.Pu
open Go Go.RowKit
set_option linter.unusedVariables false
set_option linter.unusedSectionVars false
set_option linter.unusedSimpArgs false
theorem markInt64S_ev (l : List Int) (m : Int) (h0 : 1 ≤ m) (h1 : m ≤ 1099511627776) (hl : l.length ≤ 1048576) : Ev (fun k => laws_markInt64S.f k l m) (marks m l.length, m + (l.length : Int)) := by
  have key : ∀ i, i ≤ l.length → ∀ out : List Int, out.length = l.length → (∀ j : Nat, j < i → out[j]? = some (m + (j : Int))) → Ev (fun k => laws_markInt64S.p6 k out (m + (i : Int)) (i : Int)) (marks m l.length, m + (l.length : Int)) := by
    refine down ?_ ?_
    · intro out ho ht
      refine Ev.step (fun k => by rw [laws_markInt64S.p6]) ?_
      refine Ev.neg (by omega) (Ev.eq ?_)
      congr 1
      refine List.ext_getElem? fun j => ?_
      by_cases h : j < l.length
      · rw [ht j h]
        simp [marks, List.getElem?_map, List.getElem?_range h]
      · rw [List.getElem?_eq_none (by omega), List.getElem?_eq_none (by rw [marks_length]; omega)]
    · intro i hi ih out ho ht
      have h2 := ih (out.set i (m + (i : Int))) (by rw [List.length_set]; exact ho) (fun j hj => by
        by_cases e : j = i
        · subst e; rw [List.getElem?_set_self (by omega)]
        · rw [List.getElem?_set_ne (fun h => e h.symm)]; exact ht j (by omega))
      refine Ev.step (fun k => by rw [laws_markInt64S.p6]) ?_
      rw [w64s (i := i) (by omega), show wrap64 (m + (i : Int) + 1) = m + ((i + 1 : Nat) : Int) from by rw [w64 (by omega) (by omega)]; omega, Int.toNat_natCast]
      exact Ev.pos (by omega) (Ev.pos (by omega) (Ev.pos (by omega) h2))
  unfold laws_markInt64S.f
  have := key 0 (Nat.zero_le _) l rfl (fun j hj => by omega)
  rwa [show m + ((0 : Nat) : Int) = m from by omega] at this
theorem heldInt64S_ev (m : Int) (n : Nat) (h0 : 1 ≤ m) (h1 : m ≤ 1099511627776) (hn : n ≤ 1048576) : Ev (fun k => laws_heldInt64S.f k (marks m n) m) (m + (n : Int)) := by
  have hl := marks_length m n
  have key : ∀ i, i ≤ n → Ev (fun k => laws_heldInt64S.p6 k (marks m n) (m + (i : Int)) (i : Int)) (m + (n : Int)) := by
    refine down ?_ ?_
    · refine Ev.step (fun k => by rw [laws_heldInt64S.p6]) ?_
      exact Ev.neg (by omega) (Ev.eq rfl)
    · intro i hi ih
      refine Ev.step (fun k => by rw [laws_heldInt64S.p6]) ?_
      rw [w64s (i := i) (by omega), show wrap64 (m + (i : Int) + 1) = m + ((i + 1 : Nat) : Int) from by rw [w64 (by omega) (by omega)]; omega, marks_get m n i hi]
      exact Ev.pos (by omega) (Ev.pos (by omega) (Ev.pos (by omega) (Ev.pos rfl ih)))
  unfold laws_heldInt64S.f
  have := key 0 (Nat.zero_le _)
  rwa [show m + ((0 : Nat) : Int) = m from by omega] at this
end Go.Proofs.YtlljkankongifaaDoor.Abs.Pu
namespace Go.Proofs.YtlljkankongifaaDoor.Abs.Pu
open Go Go.RowKit
set_option linter.unusedVariables false
set_option linter.unusedSectionVars false
set_option linter.unusedSimpArgs false
theorem FnExactPlanned : laws_FnExactPlanned.Pure := by
  intro c s refs oc os orf
  obtain ⟨_, _, _, tl, ts⟩ := oc
  refine Ev.rounds ?_
  unfold laws_FnExactPlanned.f
  refine Ev.cases (fun _ => Ev.eq rfl) (fun c0 => Ev.cases (fun _ => Ev.eq rfl) (fun c00 => ?_))
  obtain ⟨r, e, hr⟩ := szConfig_ev c tl ts 1048576 (by omega) (by omega)
  refine Ev.bind e (Ev.cases (fun _ => Ev.eq rfl) (fun c1 => ?_))
  obtain ⟨_, hl, hs⟩ := hr (by omega)
  have t1 := toConfig_ev c hl
  have t2 := toInt64S_ev refs (by omega)
  have q2 := eqInt64S_ev refs (by omega)
  have e1 := spec_Planned_ev c s refs hl hs (by omega)
  have e2 := impl_Planned_ev c s refs hs (by omega)
  have hlen := plannedR_length c s refs
  generalize plannedR c s refs = R at *
  have q := eqInt64S_ev R.1 (by omega)
  obtain ⟨l', m1⟩ := markStringS_ev c.2.2.2 1 (by omega) (by omega) hl
  have m0 := markInt64S_ev refs (1 + (c.2.2.2.length : Int)) (by omega) (by omega) (by omega)
  have m2 := markInt64S_ev R.1 1 (by omega) (by omega) (by omega)
  have m3 := heldInt64S_ev 1 R.1.length (by omega) (by omega) (by omega)
  refine Ev.bind t1 (Ev.bind t2 (Ev.bind e1 (Ev.bind t1 (Ev.bind t2 (Ev.bind e2 (Ev.bind q (Ev.pos rfl ?_)))))))
  simp only [decide_true, Bool.not_true]
  refine Ev.step (fun k => by rw [laws_FnExactPlanned.p41]) ?_
  refine Ev.neg (by simp) (Ev.bind t1 (Ev.bind (eqConfig_ev c hl) (Ev.pos rfl (Ev.bind t2 (Ev.bind q2 (Ev.pos rfl ?_))))))
  refine Ev.bind (a := (l', 1 + (c.2.2.2.length : Int))) ?_ ?_
  · unfold laws_markConfig.f
    exact Ev.bind m1 (Ev.eq rfl)
  refine Ev.bind m0 (Ev.neg (by simp only []; omega) (Ev.bind q (Ev.pos rfl ?_)))
  simp only [decide_true, Bool.not_true]
  refine Ev.step (fun k => by rw [laws_FnExactPlanned.p71]) ?_
  refine Ev.neg (by simp) (Ev.bind m2 (Ev.bind m3 (Ev.neg (by omega) (Ev.pos rfl ?_))))
  exact Ev.bind t1 (Ev.bind t2 (Ev.bind e2 (Ev.bind q (Ev.pos rfl (Ev.pos rfl (Ev.bind m3 (Ev.neg (by omega) (Ev.pos rfl (Ev.eq rfl)))))))))
end Go.Proofs.YtlljkankongifaaDoor.Abs.Pu
namespace Go.Proofs
open Go.Shelf
def Tryd.lays231_ren : Go.Shelf.Ren := ⟨fun | 231 => 132 | n => n, fun | 9 => 9 | 5 => 5 | 3 => 3 | 4 => 4 | n => n, fun | n => n⟩
theorem Tryd.lays231 : Go.Proofs.Lays.n231 Tryd.prog Tryd.lays231_ren := {
  mixed := by kernel_rfl
  f231 := Tryd.func132.trans (congrArg some (by kernel_rfl))
  t3 := Tryd.underlying3
  a3 := Tryd.isAgg3
  z3 := Tryd.sizeOf3
  v3 := Tryd.zeroValue3
  t4 := Tryd.underlying4
  a4 := Tryd.isAgg4
  z4 := Tryd.sizeOf4
  v4 := Tryd.zeroValue4
  t5 := Tryd.underlying5
  a5 := Tryd.isAgg5
  z5 := Tryd.sizeOf5
  v5 := Tryd.zeroValue5
  t9 := Tryd.underlying9
  a9 := Tryd.isAgg9
  z9 := Tryd.sizeOf9
  v9 := Tryd.zeroValue9 }
open Go.RowKit in
/-- strings.trimLeftByte (no doc; what TrimLeft and Trim call at a cutset of one ASCII byte): the leading bytes that are c are cut off. The world is as it was. (LAID: no walk: one application.) -/
theorem Tryd.strings_trimLeftByte (s : ByteArray) (c : UInt8) (w : World) :
    Calls Tryd.prog 132 #[.string s, .int .u8 c.toNat] w fun e w' => e = .returned (.string ⟨(Lib.trimLeftB s.data.toList c).toArray⟩) ∧ w' = w := Any.strings_trimLeftByte Tryd.lays231 s c w
def Tryd.lays232_ren : Go.Shelf.Ren := ⟨fun | 232 => 133 | n => n, fun | 9 => 9 | 5 => 5 | 3 => 3 | 4 => 4 | n => n, fun | n => n⟩
theorem Tryd.lays232 : Go.Proofs.Lays.n232 Tryd.prog Tryd.lays232_ren := {
  mixed := by kernel_rfl
  f232 := Tryd.func133.trans (congrArg some (by kernel_rfl))
  t3 := Tryd.underlying3
  a3 := Tryd.isAgg3
  z3 := Tryd.sizeOf3
  v3 := Tryd.zeroValue3
  t4 := Tryd.underlying4
  a4 := Tryd.isAgg4
  z4 := Tryd.sizeOf4
  v4 := Tryd.zeroValue4
  t5 := Tryd.underlying5
  a5 := Tryd.isAgg5
  z5 := Tryd.sizeOf5
  v5 := Tryd.zeroValue5
  t9 := Tryd.underlying9
  a9 := Tryd.isAgg9
  z9 := Tryd.sizeOf9
  v9 := Tryd.zeroValue9 }
open Go.RowKit in
/-- strings.trimRightByte (no doc; what TrimRight and Trim call at a cutset of one ASCII byte): the trailing bytes that are c are cut off. The world is as it was. ('hs': a string's length is a number that an int holds.) (LAID: no walk: one application.) -/
theorem Tryd.strings_trimRightByte (s : ByteArray) (c : UInt8) (w : World) (hs : s.size ≤ 9223372036854775807) :
    Calls Tryd.prog 133 #[.string s, .int .u8 c.toNat] w fun e w' => e = .returned (.string ⟨(Lib.trimRightB s.data.toList c).toArray⟩) ∧ w' = w := Any.strings_trimRightByte Tryd.lays232 s c w hs
def Tryd.lays160_ren : Go.Shelf.Ren := ⟨fun | 160 => 107 | 232 => 133 | 231 => 132 | 227 => 134 | 234 => 136 | 233 => 135 | 236 => 138 | 235 => 137 | 228 => 152 | 271 => 155 | 151 => 154 | 197 => 153 | 120 => 164 | 152 => 163 | 260 => 162 | 137 => 167 | 119 => 168 | 224 => 169 | 225 => 170 | 217 => 171 | 266 => 172 | n => n, fun | 9 => 9 | 4 => 4 | 3 => 3 | 5 => 5 | 117 => 122 | 116 => 121 | 0 => 0 | 124 => 125 | 21 => 21 | 105 => 142 | 46 => 99 | 119 => 154 | 139 => 157 | 138 => 156 | n => n, fun | 3 => 0 | 4 => 1 | n => n⟩
theorem Tryd.lays160 : Go.Proofs.Lays.n160 Tryd.prog Tryd.lays160_ren := {
  mixed := by kernel_rfl
  f119 := Tryd.func168.trans (congrArg some (by kernel_rfl))
  f120 := Tryd.func164.trans (congrArg some (by kernel_rfl))
  f137 := Tryd.func167.trans (congrArg some (by kernel_rfl))
  f151 := Tryd.func154.trans (congrArg some (by kernel_rfl))
  f152 := Tryd.func163.trans (congrArg some (by kernel_rfl))
  f160 := Tryd.func107.trans (congrArg some (by kernel_rfl))
  f197 := Tryd.func153.trans (congrArg some (by kernel_rfl))
  f217 := Tryd.func171.trans (congrArg some (by kernel_rfl))
  f224 := Tryd.func169.trans (congrArg some (by kernel_rfl))
  f225 := Tryd.func170.trans (congrArg some (by kernel_rfl))
  f227 := Tryd.func134.trans (congrArg some (by kernel_rfl))
  f228 := Tryd.func152.trans (congrArg some (by kernel_rfl))
  f231 := Tryd.func132.trans (congrArg some (by kernel_rfl))
  f232 := Tryd.func133.trans (congrArg some (by kernel_rfl))
  f233 := Tryd.func135.trans (congrArg some (by kernel_rfl))
  f234 := Tryd.func136.trans (congrArg some (by kernel_rfl))
  f235 := Tryd.func137.trans (congrArg some (by kernel_rfl))
  f236 := Tryd.func138.trans (congrArg some (by kernel_rfl))
  f260 := Tryd.func162.trans (congrArg some (by kernel_rfl))
  f266 := Tryd.func172.trans (congrArg some (by kernel_rfl))
  f271 := Tryd.func155.trans (congrArg some (by kernel_rfl))
  t0 := Tryd.underlying0
  a0 := Tryd.isAgg0
  z0 := Tryd.sizeOf0
  v0 := Tryd.zeroValue0
  t3 := Tryd.underlying3
  a3 := Tryd.isAgg3
  z3 := Tryd.sizeOf3
  v3 := Tryd.zeroValue3
  t4 := Tryd.underlying4
  a4 := Tryd.isAgg4
  z4 := Tryd.sizeOf4
  v4 := Tryd.zeroValue4
  t5 := Tryd.underlying5
  a5 := Tryd.isAgg5
  z5 := Tryd.sizeOf5
  v5 := Tryd.zeroValue5
  t9 := Tryd.underlying9
  a9 := Tryd.isAgg9
  z9 := Tryd.sizeOf9
  v9 := Tryd.zeroValue9
  t21 := Tryd.underlying21
  a21 := Tryd.isAgg21
  z21 := Tryd.sizeOf21
  v21 := Tryd.zeroValue21
  t46 := Tryd.underlying99
  a46 := Tryd.isAgg99
  z46 := Tryd.sizeOf99
  v46 := Tryd.zeroValue99
  t105 := Tryd.underlying142
  a105 := Tryd.isAgg142
  z105 := Tryd.sizeOf142
  v105 := Tryd.zeroValue142
  t116 := Tryd.underlying121
  a116 := Tryd.isAgg121
  z116 := Tryd.sizeOf121
  t117 := Tryd.underlying122
  a117 := Tryd.isAgg122
  z117 := Tryd.sizeOf122
  v117 := Tryd.zeroValue122
  t119 := Tryd.underlying154
  a119 := Tryd.isAgg154
  z119 := Tryd.sizeOf154
  t124 := Tryd.underlying125
  a124 := Tryd.isAgg125
  z124 := Tryd.sizeOf125
  v124 := Tryd.zeroValue125
  t138 := Tryd.underlying156
  a138 := Tryd.isAgg156
  z138 := Tryd.sizeOf156
  v138 := Tryd.zeroValue156
  t139 := Tryd.underlying157
  a139 := Tryd.isAgg157
  z139 := Tryd.sizeOf157
  v139 := Tryd.zeroValue157
  g3 := by kernel_rfl
  g4 := by kernel_rfl }
open Go.RowKit in
/-- strings.Trim: "Trim returns a slice of the string s with all leading and trailing Unicode code points contained in cutset removed.": AT A cutset OF ONE ASCII BYTE. THE WORLD BEHIND IT: as it was, or (where s is not empty) with ONE DRAW MORE off the tape: the statement 'return trimLeftByte(trimRightByte(s, c), c)' draws its order of evaluation. (LAID: no walk: one application.) -/
theorem Tryd.strings_Trim_one (s : ByteArray) (c : UInt8) (hc : c.toNat < 128) (w : World) (hs : s.size ≤ 9223372036854775807) :
    Calls Tryd.prog 107 #[.string s, .string ⟨#[c]⟩] w fun e w' => e = .returned (.string ⟨(Lib.trimB s.data.toList c).toArray⟩) ∧ (w' = w ∨ w' = w.drew) := Any.strings_Trim_one Tryd.lays160 s c hc w hs
def Tryd.lays119_ren : Go.Shelf.Ren := ⟨fun | 119 => 168 | n => n, fun | 21 => 21 | 4 => 4 | n => n, fun | n => n⟩
theorem Tryd.lays119 : Go.Proofs.Lays.n119 Tryd.prog Tryd.lays119_ren := {
  mixed := by kernel_rfl
  f119 := Tryd.func168.trans (congrArg some (by kernel_rfl))
  t4 := Tryd.underlying4
  a4 := Tryd.isAgg4
  z4 := Tryd.sizeOf4
  v4 := Tryd.zeroValue4
  t21 := Tryd.underlying21
  a21 := Tryd.isAgg21
  z21 := Tryd.sizeOf21
  v21 := Tryd.zeroValue21 }
/-- utf8.ValidRune: "ValidRune reports whether r can be legally encoded as UTF-8. Code points that are out of range or a surrogate half are illegal.": IT RETURNS 'Lib.validRune r'; the world is as it was. (LAID: no walk: one application.) -/
theorem Tryd.utf8_ValidRune (r : Int) (w : World) :
    Calls Tryd.prog 168 #[.int .i32 r] w fun e w' => e = .returned (.bool (Lib.validRune r)) ∧ w' = w := Any.utf8_ValidRune Tryd.lays119 r w
def Tryd.lays120_ren : Go.Shelf.Ren := ⟨fun | 120 => 164 | n => n, fun | 5 => 5 | 4 => 4 | n => n, fun | n => n⟩
theorem Tryd.lays120 : Go.Proofs.Lays.n120 Tryd.prog Tryd.lays120_ren := {
  mixed := by kernel_rfl
  f120 := Tryd.func164.trans (congrArg some (by kernel_rfl))
  t4 := Tryd.underlying4
  a4 := Tryd.isAgg4
  z4 := Tryd.sizeOf4
  v4 := Tryd.zeroValue4
  t5 := Tryd.underlying5
  a5 := Tryd.isAgg5
  z5 := Tryd.sizeOf5
  v5 := Tryd.zeroValue5 }
/-- utf8.RuneStart: "RuneStart reports whether the byte could be the first byte of an encoded, possibly invalid rune. Second and subsequent bytes always have the top two bits set to 10.": IT RETURNS 'Lib.runeStart b'; the world is as it was. ('h0', 'h1': b is a byte: a caller has it of every byte that it was handed.) (LAID: no walk: one application.) -/
theorem Tryd.utf8_RuneStart (b : Int) (w : World) (h0 : 0 ≤ b) (h1 : b < 256) :
    Calls Tryd.prog 164 #[.int .u8 b] w fun e w' => e = .returned (.bool (Lib.runeStart b)) ∧ w' = w := Any.utf8_RuneStart Tryd.lays120 b w h0 h1
def Tryd.lays137_ren : Go.Shelf.Ren := ⟨fun | 137 => 167 | 217 => 171 | 266 => 172 | n => n, fun | 9 => 9 | 5 => 5 | 3 => 3 | n => n, fun | n => n⟩
theorem Tryd.lays137 : Go.Proofs.Lays.n137 Tryd.prog Tryd.lays137_ren := {
  mixed := by kernel_rfl
  f137 := Tryd.func167.trans (congrArg some (by kernel_rfl))
  f217 := Tryd.func171.trans (congrArg some (by kernel_rfl))
  f266 := Tryd.func172.trans (congrArg some (by kernel_rfl))
  t3 := Tryd.underlying3
  a3 := Tryd.isAgg3
  z3 := Tryd.sizeOf3
  v3 := Tryd.zeroValue3
  t5 := Tryd.underlying5
  a5 := Tryd.isAgg5
  z5 := Tryd.sizeOf5
  v5 := Tryd.zeroValue5
  t9 := Tryd.underlying9
  a9 := Tryd.isAgg9
  z9 := Tryd.sizeOf9
  v9 := Tryd.zeroValue9 }
open Go.RowKit in
/-- strings.IndexByte: "IndexByte returns the index of the first instance of c in s, or -1 if c is not present in s.": IT RETURNS 'Lib.indexByte s c'; the world is as it was. (LAID: no walk: one application.) -/
theorem Tryd.strings_IndexByte (s : ByteArray) (c : Int) (w : World) :
    Calls Tryd.prog 167 #[.string s, .int .u8 c] w fun e w' => e = .returned (.int .i64 (Lib.indexByte s.data.toList c.toNat.toUInt8)) ∧ w' = w := Any.strings_IndexByte Tryd.lays137 s c w
def Tryd.lays217_ren : Go.Shelf.Ren := ⟨fun | 217 => 171 | 266 => 172 | n => n, fun | 9 => 9 | 5 => 5 | 3 => 3 | n => n, fun | n => n⟩
theorem Tryd.lays217 : Go.Proofs.Lays.n217 Tryd.prog Tryd.lays217_ren := {
  mixed := by kernel_rfl
  f217 := Tryd.func171.trans (congrArg some (by kernel_rfl))
  f266 := Tryd.func172.trans (congrArg some (by kernel_rfl))
  t3 := Tryd.underlying3
  a3 := Tryd.isAgg3
  z3 := Tryd.sizeOf3
  v3 := Tryd.zeroValue3
  t5 := Tryd.underlying5
  a5 := Tryd.isAgg5
  z5 := Tryd.sizeOf5
  v5 := Tryd.zeroValue5
  t9 := Tryd.underlying9
  a9 := Tryd.isAgg9
  z9 := Tryd.sizeOf9
  v9 := Tryd.zeroValue9 }
open Go.RowKit Go.Lib in
/-- internal/stringslite.IndexByte (what strings.IndexByte calls): IT RETURNS 'Lib.indexByte s c'; the world is as it was. (LAID: no walk: one application.) -/
theorem Tryd.stringslite_IndexByte (s : ByteArray) (c : Int) (w : World) :
    Calls Tryd.prog 171 #[.string s, .int .u8 c] w fun e w' => e = .returned (.int .i64 (Lib.indexByte s.data.toList c.toNat.toUInt8)) ∧ w' = w := Any.stringslite_IndexByte Tryd.lays217 s c w
def Tryd.lays224_ren : Go.Shelf.Ren := ⟨fun | 224 => 169 | n => n, fun | 3 => 3 | n => n, fun | n => n⟩
theorem Tryd.lays224 : Go.Proofs.Lays.n224 Tryd.prog Tryd.lays224_ren := {
  mixed := by kernel_rfl
  f224 := Tryd.func169.trans (congrArg some (by kernel_rfl))
  t3 := Tryd.underlying3
  a3 := Tryd.isAgg3
  z3 := Tryd.sizeOf3
  v3 := Tryd.zeroValue3 }
open Go.RowKit Go.Lib in
/-- internal/bytealg.Cutover: "Cutover reports the number of failures of IndexByte we should tolerate before switching over to Index. n is the number of bytes processed so far.": on amd64: (n + 16) / 8. (LAID: no walk: one application.) -/
theorem Tryd.bytealg_Cutover (n : Int) (h0 : 0 ≤ n) (h1 : n < 4611686018427387904) (w : World) :
    Calls Tryd.prog 169 #[.int .i64 n] w fun e w' => e = .returned (.int .i64 ((n + 16) / 8)) ∧ w' = w := Any.bytealg_Cutover Tryd.lays224 n h0 h1 w
def Tryd.lays206_ren : Go.Shelf.Ren := ⟨fun | 206 => 158 | n => n, fun | 9 => 9 | 4 => 4 | 3 => 3 | n => n, fun | n => n⟩
theorem Tryd.lays206 : Go.Proofs.Lays.n206 Tryd.prog Tryd.lays206_ren := {
  mixed := by kernel_rfl
  f206 := Tryd.func158.trans (congrArg some (by kernel_rfl))
  t3 := Tryd.underlying3
  a3 := Tryd.isAgg3
  z3 := Tryd.sizeOf3
  v3 := Tryd.zeroValue3
  t4 := Tryd.underlying4
  a4 := Tryd.isAgg4
  z4 := Tryd.sizeOf4
  v4 := Tryd.zeroValue4
  t9 := Tryd.underlying9
  a9 := Tryd.isAgg9
  z9 := Tryd.sizeOf9
  v9 := Tryd.zeroValue9 }
open Go.RowKit Go.Lib in
/-- internal/stringslite.HasPrefix (what strings.HasPrefix calls). (LAID: no walk: one application.) -/
theorem Tryd.stringslite_HasPrefix (s p : ByteArray) (w : World) :
    Calls Tryd.prog 158 #[.string s, .string p] w fun e w' => e = .returned (.bool (Lib.hasPrefix s.data.toList p.data.toList)) ∧ w' = w := Any.stringslite_HasPrefix Tryd.lays206 s p w
def Tryd.lays99_ren : Go.Shelf.Ren := ⟨fun | 99 => 145 | 206 => 158 | n => n, fun | 9 => 9 | 4 => 4 | 3 => 3 | n => n, fun | n => n⟩
theorem Tryd.lays99 : Go.Proofs.Lays.n99 Tryd.prog Tryd.lays99_ren := {
  mixed := by kernel_rfl
  f99 := Tryd.func145.trans (congrArg some (by kernel_rfl))
  f206 := Tryd.func158.trans (congrArg some (by kernel_rfl))
  t3 := Tryd.underlying3
  a3 := Tryd.isAgg3
  z3 := Tryd.sizeOf3
  v3 := Tryd.zeroValue3
  t4 := Tryd.underlying4
  a4 := Tryd.isAgg4
  z4 := Tryd.sizeOf4
  v4 := Tryd.zeroValue4
  t9 := Tryd.underlying9
  a9 := Tryd.isAgg9
  z9 := Tryd.sizeOf9
  v9 := Tryd.zeroValue9 }
open Go.RowKit Go.Lib in
/-- strings.HasPrefix: "HasPrefix reports whether the string s begins with prefix.": IT RETURNS 'Lib.hasPrefix s prefix'; the world is as it was. (LAID: no walk: one application.) -/
theorem Tryd.strings_HasPrefix (s p : ByteArray) (w : World) :
    Calls Tryd.prog 145 #[.string s, .string p] w fun e w' => e = .returned (.bool (Lib.hasPrefix s.data.toList p.data.toList)) ∧ w' = w := Any.strings_HasPrefix Tryd.lays99 s p w
def Tryd.lays197_ren : Go.Shelf.Ren := ⟨fun | 197 => 153 | 260 => 162 | n => n, fun | 9 => 9 | 21 => 21 | 3 => 3 | 4 => 4 | 5 => 5 | 105 => 142 | 119 => 154 | 0 => 0 | 46 => 99 | 139 => 157 | 138 => 156 | n => n, fun | 3 => 0 | 4 => 1 | n => n⟩
theorem Tryd.lays197 : Go.Proofs.Lays.n197 Tryd.prog Tryd.lays197_ren := {
  mixed := by kernel_rfl
  f197 := Tryd.func153.trans (congrArg some (by kernel_rfl))
  f260 := Tryd.func162.trans (congrArg some (by kernel_rfl))
  t0 := Tryd.underlying0
  a0 := Tryd.isAgg0
  z0 := Tryd.sizeOf0
  v0 := Tryd.zeroValue0
  t3 := Tryd.underlying3
  a3 := Tryd.isAgg3
  z3 := Tryd.sizeOf3
  v3 := Tryd.zeroValue3
  t4 := Tryd.underlying4
  a4 := Tryd.isAgg4
  z4 := Tryd.sizeOf4
  v4 := Tryd.zeroValue4
  t5 := Tryd.underlying5
  a5 := Tryd.isAgg5
  z5 := Tryd.sizeOf5
  v5 := Tryd.zeroValue5
  t9 := Tryd.underlying9
  a9 := Tryd.isAgg9
  z9 := Tryd.sizeOf9
  v9 := Tryd.zeroValue9
  t21 := Tryd.underlying21
  a21 := Tryd.isAgg21
  z21 := Tryd.sizeOf21
  v21 := Tryd.zeroValue21
  t46 := Tryd.underlying99
  a46 := Tryd.isAgg99
  z46 := Tryd.sizeOf99
  v46 := Tryd.zeroValue99
  t105 := Tryd.underlying142
  a105 := Tryd.isAgg142
  z105 := Tryd.sizeOf142
  v105 := Tryd.zeroValue142
  t119 := Tryd.underlying154
  a119 := Tryd.isAgg154
  z119 := Tryd.sizeOf154
  t138 := Tryd.underlying156
  a138 := Tryd.isAgg156
  z138 := Tryd.sizeOf156
  v138 := Tryd.zeroValue156
  t139 := Tryd.underlying157
  a139 := Tryd.isAgg157
  z139 := Tryd.sizeOf157
  v139 := Tryd.zeroValue157
  g3 := by kernel_rfl
  g4 := by kernel_rfl }
open Go.RowKit Go.Lib in
/-- unicode/utf8.DecodeRuneInString: "DecodeRuneInString is like DecodeRune but its input is a string.": ("DecodeRune unpacks the first UTF-8 encoding in p and returns the rune and its width in bytes."): WHERE s BEGINS WITH AN ASCII BYTE x: (x, 1). (LAID: no walk: one application.) -/
theorem Tryd.utf8_DecodeRuneInString_ascii (s : ByteArray) (x : UInt8) (w : World) (h0 : s.data.toList[0]? = some x) (hx : x.toNat < 128) :
    Calls Tryd.prog 153 #[.string s] w fun e w' => e = .returned (.tuple #[.int .i32 x.toNat, .int .i64 1]) ∧ w' = w := Any.utf8_DecodeRuneInString_ascii Tryd.lays197 s x w h0 hx
def Tryd.lays152_ren : Go.Shelf.Ren := ⟨fun | 152 => 163 | 137 => 167 | 119 => 168 | 224 => 169 | 225 => 170 | 217 => 171 | 266 => 172 | n => n, fun | 9 => 9 | 21 => 21 | 3 => 3 | 4 => 4 | 5 => 5 | 0 => 0 | 46 => 99 | n => n, fun | n => n⟩
theorem Tryd.lays152 : Go.Proofs.Lays.n152 Tryd.prog Tryd.lays152_ren := {
  mixed := by kernel_rfl
  f119 := Tryd.func168.trans (congrArg some (by kernel_rfl))
  f137 := Tryd.func167.trans (congrArg some (by kernel_rfl))
  f152 := Tryd.func163.trans (congrArg some (by kernel_rfl))
  f217 := Tryd.func171.trans (congrArg some (by kernel_rfl))
  f224 := Tryd.func169.trans (congrArg some (by kernel_rfl))
  f225 := Tryd.func170.trans (congrArg some (by kernel_rfl))
  f266 := Tryd.func172.trans (congrArg some (by kernel_rfl))
  t0 := Tryd.underlying0
  a0 := Tryd.isAgg0
  z0 := Tryd.sizeOf0
  v0 := Tryd.zeroValue0
  t3 := Tryd.underlying3
  a3 := Tryd.isAgg3
  z3 := Tryd.sizeOf3
  v3 := Tryd.zeroValue3
  t4 := Tryd.underlying4
  a4 := Tryd.isAgg4
  z4 := Tryd.sizeOf4
  v4 := Tryd.zeroValue4
  t5 := Tryd.underlying5
  a5 := Tryd.isAgg5
  z5 := Tryd.sizeOf5
  v5 := Tryd.zeroValue5
  t9 := Tryd.underlying9
  a9 := Tryd.isAgg9
  z9 := Tryd.sizeOf9
  v9 := Tryd.zeroValue9
  t21 := Tryd.underlying21
  a21 := Tryd.isAgg21
  z21 := Tryd.sizeOf21
  v21 := Tryd.zeroValue21
  t46 := Tryd.underlying99
  a46 := Tryd.isAgg99
  z46 := Tryd.sizeOf99
  v46 := Tryd.zeroValue99 }
open Go.RowKit Go.Lib in
theorem Tryd.strings_IndexRune_ascii (s : ByteArray) (r : Int) (w : World) (h0 : 0 ≤ r) (h1 : r < 128) :
    Calls Tryd.prog 163 #[.string s, .int .i32 r] w fun e w' => e = .returned (.int .i64 (Lib.indexByte s.data.toList r.toNat.toUInt8)) ∧ w' = w := Any.strings_IndexRune_ascii Tryd.lays152 s r w h0 h1
def Tryd.lays151_ren : Go.Shelf.Ren := ⟨fun | 151 => 154 | 152 => 163 | 137 => 167 | 119 => 168 | 224 => 169 | 225 => 170 | 217 => 171 | 266 => 172 | n => n, fun | 9 => 9 | 21 => 21 | 4 => 4 | 3 => 3 | 5 => 5 | 0 => 0 | 46 => 99 | n => n, fun | n => n⟩
theorem Tryd.lays151 : Go.Proofs.Lays.n151 Tryd.prog Tryd.lays151_ren := {
  mixed := by kernel_rfl
  f119 := Tryd.func168.trans (congrArg some (by kernel_rfl))
  f137 := Tryd.func167.trans (congrArg some (by kernel_rfl))
  f151 := Tryd.func154.trans (congrArg some (by kernel_rfl))
  f152 := Tryd.func163.trans (congrArg some (by kernel_rfl))
  f217 := Tryd.func171.trans (congrArg some (by kernel_rfl))
  f224 := Tryd.func169.trans (congrArg some (by kernel_rfl))
  f225 := Tryd.func170.trans (congrArg some (by kernel_rfl))
  f266 := Tryd.func172.trans (congrArg some (by kernel_rfl))
  t0 := Tryd.underlying0
  a0 := Tryd.isAgg0
  z0 := Tryd.sizeOf0
  v0 := Tryd.zeroValue0
  t3 := Tryd.underlying3
  a3 := Tryd.isAgg3
  z3 := Tryd.sizeOf3
  v3 := Tryd.zeroValue3
  t4 := Tryd.underlying4
  a4 := Tryd.isAgg4
  z4 := Tryd.sizeOf4
  v4 := Tryd.zeroValue4
  t5 := Tryd.underlying5
  a5 := Tryd.isAgg5
  z5 := Tryd.sizeOf5
  v5 := Tryd.zeroValue5
  t9 := Tryd.underlying9
  a9 := Tryd.isAgg9
  z9 := Tryd.sizeOf9
  v9 := Tryd.zeroValue9
  t21 := Tryd.underlying21
  a21 := Tryd.isAgg21
  z21 := Tryd.sizeOf21
  v21 := Tryd.zeroValue21
  t46 := Tryd.underlying99
  a46 := Tryd.isAgg99
  z46 := Tryd.sizeOf99
  v46 := Tryd.zeroValue99 }
open Go.RowKit Go.Lib in
theorem Tryd.strings_ContainsRune_ascii (s : ByteArray) (r : Int) (w : World) (h0 : 0 ≤ r) (h1 : r < 128) :
    Calls Tryd.prog 154 #[.string s, .int .i32 r] w fun e w' => e = .returned (.bool (decide (0 ≤ Lib.indexByte s.data.toList r.toNat.toUInt8))) ∧ w' = w := Any.strings_ContainsRune_ascii Tryd.lays151 s r w h0 h1
def Tryd.lays227_ren : Go.Shelf.Ren := ⟨fun | 227 => 134 | n => n, fun | 9 => 9 | 116 => 121 | 4 => 4 | 0 => 0 | 3 => 3 | 5 => 5 | n => n, fun | n => n⟩
theorem Tryd.lays227 : Go.Proofs.Lays.n227 Tryd.prog Tryd.lays227_ren := {
  mixed := by kernel_rfl
  f227 := Tryd.func134.trans (congrArg some (by kernel_rfl))
  t0 := Tryd.underlying0
  a0 := Tryd.isAgg0
  z0 := Tryd.sizeOf0
  v0 := Tryd.zeroValue0
  t3 := Tryd.underlying3
  a3 := Tryd.isAgg3
  z3 := Tryd.sizeOf3
  v3 := Tryd.zeroValue3
  t4 := Tryd.underlying4
  a4 := Tryd.isAgg4
  z4 := Tryd.sizeOf4
  v4 := Tryd.zeroValue4
  t5 := Tryd.underlying5
  a5 := Tryd.isAgg5
  z5 := Tryd.sizeOf5
  v5 := Tryd.zeroValue5
  t9 := Tryd.underlying9
  a9 := Tryd.isAgg9
  z9 := Tryd.sizeOf9
  v9 := Tryd.zeroValue9
  t116 := Tryd.underlying121
  a116 := Tryd.isAgg121
  z116 := Tryd.sizeOf121 }
open Go.RowKit Go.Lib in
theorem Tryd.strings_makeASCIISet (hv116 : ∀ w, (zeroValue 121).run Tryd.prog w = .ok (.agg (Array.replicate 256 (.bool false))) w) (chars : ByteArray) (w : World) (hs : chars.size < 4294967281) (hascii : ∀ (j : Nat) b, chars.data.toList[j]? = some b → b.toNat < 128) :
    Calls Tryd.prog 134 #[.string chars] w fun e w' => e = .returned (.tuple #[.agg (Lib.setCells chars.data.toList), .bool true]) ∧ w' = w.alloc (.cells (Lib.setCells chars.data.toList) 121) := Any.strings_makeASCIISet Tryd.lays227 hv116 (by kernel_rfl) chars w hs hascii
def Tryd.lays228_ren : Go.Shelf.Ren := ⟨fun | 228 => 152 | n => n, fun | 124 => 125 | 5 => 5 | 4 => 4 | 0 => 0 | 116 => 121 | n => n, fun | n => n⟩
theorem Tryd.lays228 : Go.Proofs.Lays.n228 Tryd.prog Tryd.lays228_ren := {
  mixed := by kernel_rfl
  f228 := Tryd.func152.trans (congrArg some (by kernel_rfl))
  t0 := Tryd.underlying0
  a0 := Tryd.isAgg0
  z0 := Tryd.sizeOf0
  v0 := Tryd.zeroValue0
  t4 := Tryd.underlying4
  a4 := Tryd.isAgg4
  z4 := Tryd.sizeOf4
  v4 := Tryd.zeroValue4
  t5 := Tryd.underlying5
  a5 := Tryd.isAgg5
  z5 := Tryd.sizeOf5
  v5 := Tryd.zeroValue5
  t116 := Tryd.underlying121
  a116 := Tryd.isAgg121
  z116 := Tryd.sizeOf121
  t124 := Tryd.underlying125
  a124 := Tryd.isAgg125
  z124 := Tryd.sizeOf125
  v124 := Tryd.zeroValue125 }
open Go.RowKit Go.Lib in
/-- '(as *asciiSet) contains(c)': 'as[c]': the set lies at block b, whole. (LAID: no walk: one application.) -/
theorem Tryd.asciiSet_contains (b : Nat) (x : UInt8) (v : Bool) (w : World) (hc : w.cell? ⟨b, x.toNat, none⟩ = some (.bool v)) :
    Calls Tryd.prog 152 #[.pointer (some ⟨b, 0, none⟩), .int .u8 x.toNat] w fun e w' => e = .returned (.bool v) ∧ w' = w := Any.asciiSet_contains Tryd.lays228 b x v w hc
def Tryd.lays264_ren : Go.Shelf.Ren := ⟨fun | 264 => 157 | n => n, fun | 53 => 111 | 46 => 99 | n => n, fun | n => n⟩
theorem Tryd.lays264 : Go.Proofs.Lays.n264 Tryd.prog Tryd.lays264_ren := {
  mixed := by kernel_rfl
  f264 := Tryd.func157.trans (congrArg some (by kernel_rfl))
  t46 := Tryd.underlying99
  a46 := Tryd.isAgg99
  z46 := Tryd.sizeOf99
  v46 := Tryd.zeroValue99
  t53 := Tryd.underlying111
  a53 := Tryd.isAgg111
  z53 := Tryd.sizeOf111
  v53 := Tryd.zeroValue111 }
open Go.RowKit Go.Lib in
theorem Tryd.bits_Mul64 (x y : Nat) (hx : x < 18446744073709551616) (hy : y < 18446744073709551616) (w : World) :
    Calls Tryd.prog 157 #[.int .u64 x, .int .u64 y] w fun e w' => e = .returned (.tuple #[.int .u64 ((x * y / 18446744073709551616 : Nat) : Int), .int .u64 ((x * y % 18446744073709551616 : Nat) : Int)]) ∧ w' = w := Any.bits_Mul64 Tryd.lays264 x y hx hy w
def Tryd.lays212_ren : Go.Shelf.Ren := ⟨fun | 212 => 144 | 263 => 156 | 264 => 157 | n => n, fun | 46 => 99 | 51 => 140 | 146 => 145 | 53 => 111 | 148 => 147 | n => n, fun | n => n⟩
theorem Tryd.lays212 : Go.Proofs.Lays.n212 Tryd.prog Tryd.lays212_ren := {
  mixed := by kernel_rfl
  f212 := Tryd.func144.trans (congrArg some (by kernel_rfl))
  f263 := Tryd.func156.trans (congrArg some (by kernel_rfl))
  f264 := Tryd.func157.trans (congrArg some (by kernel_rfl))
  t46 := Tryd.underlying99
  a46 := Tryd.isAgg99
  z46 := Tryd.sizeOf99
  v46 := Tryd.zeroValue99
  t51 := Tryd.underlying140
  a51 := Tryd.isAgg140
  z51 := Tryd.sizeOf140
  v51 := Tryd.zeroValue140
  t53 := Tryd.underlying111
  a53 := Tryd.isAgg111
  z53 := Tryd.sizeOf111
  v53 := Tryd.zeroValue111
  t146 := Tryd.underlying145
  a146 := Tryd.isAgg145
  z146 := Tryd.sizeOf145
  v146 := Tryd.zeroValue145
  t148 := Tryd.underlying147
  a148 := Tryd.isAgg147
  z148 := Tryd.sizeOf147
  v148 := Tryd.zeroValue147 }
open Go.RowKit Go.Lib in
/-- math/bits.Mul: "Mul returns the full-width product of x and y": on a machine of 64 bits: Mul64's. (LAID: no walk: one application.) -/
theorem Tryd.bits_Mul (x y : Nat) (hx : x < 18446744073709551616) (hy : y < 18446744073709551616) (w : World) :
    Calls Tryd.prog 144 #[.int .u64 x, .int .u64 y] w fun e w' => e = .returned (.tuple #[.int .u64 ((x * y / 18446744073709551616 : Nat) : Int), .int .u64 ((x * y % 18446744073709551616 : Nat) : Int)]) ∧ w' = w := Any.bits_Mul Tryd.lays212 x y hx hy w
def Tryd.lays105_ren : Go.Shelf.Ren := ⟨fun | 105 => 124 | 212 => 144 | 99 => 145 | 165 => 146 | 166 => 147 | 170 => 148 | 169 => 149 | 263 => 156 | 264 => 157 | 206 => 158 | 240 => 159 | 241 => 160 | 276 => 165 | 277 => 166 | n => n, fun | 9 => 9 | 3 => 3 | 4 => 4 | 20 => 20 | 0 => 0 | 46 => 99 | 109 => 129 | 5 => 5 | 72 => 134 | 76 => 138 | 51 => 140 | 146 => 145 | 53 => 111 | 148 => 147 | 70 => 132 | 37 => 40 | 75 => 137 | 127 => 149 | 164 => 151 | 80 => 76 | n => n, fun | n => n⟩
theorem Tryd.lays105 : Go.Proofs.Lays.n105 Tryd.prog Tryd.lays105_ren := {
  mixed := by kernel_rfl
  f99 := Tryd.func145.trans (congrArg some (by kernel_rfl))
  f105 := Tryd.func124.trans (congrArg some (by kernel_rfl))
  f165 := Tryd.func146.trans (congrArg some (by kernel_rfl))
  f166 := Tryd.func147.trans (congrArg some (by kernel_rfl))
  f169 := Tryd.func149.trans (congrArg some (by kernel_rfl))
  f170 := Tryd.func148.trans (congrArg some (by kernel_rfl))
  f206 := Tryd.func158.trans (congrArg some (by kernel_rfl))
  f212 := Tryd.func144.trans (congrArg some (by kernel_rfl))
  f240 := Tryd.func159.trans (congrArg some (by kernel_rfl))
  f241 := Tryd.func160.trans (congrArg some (by kernel_rfl))
  f263 := Tryd.func156.trans (congrArg some (by kernel_rfl))
  f264 := Tryd.func157.trans (congrArg some (by kernel_rfl))
  f276 := Tryd.func165.trans (congrArg some (by kernel_rfl))
  f277 := Tryd.func166.trans (congrArg some (by kernel_rfl))
  t0 := Tryd.underlying0
  a0 := Tryd.isAgg0
  z0 := Tryd.sizeOf0
  v0 := Tryd.zeroValue0
  t3 := Tryd.underlying3
  a3 := Tryd.isAgg3
  z3 := Tryd.sizeOf3
  v3 := Tryd.zeroValue3
  t4 := Tryd.underlying4
  a4 := Tryd.isAgg4
  z4 := Tryd.sizeOf4
  v4 := Tryd.zeroValue4
  t5 := Tryd.underlying5
  a5 := Tryd.isAgg5
  z5 := Tryd.sizeOf5
  v5 := Tryd.zeroValue5
  t9 := Tryd.underlying9
  a9 := Tryd.isAgg9
  z9 := Tryd.sizeOf9
  v9 := Tryd.zeroValue9
  t20 := Tryd.underlying20
  a20 := Tryd.isAgg20
  z20 := Tryd.sizeOf20
  v20 := Tryd.zeroValue20
  t37 := Tryd.underlying40
  a37 := Tryd.isAgg40
  z37 := Tryd.sizeOf40
  v37 := Tryd.zeroValue40
  t46 := Tryd.underlying99
  a46 := Tryd.isAgg99
  z46 := Tryd.sizeOf99
  v46 := Tryd.zeroValue99
  t51 := Tryd.underlying140
  a51 := Tryd.isAgg140
  z51 := Tryd.sizeOf140
  v51 := Tryd.zeroValue140
  t53 := Tryd.underlying111
  a53 := Tryd.isAgg111
  z53 := Tryd.sizeOf111
  v53 := Tryd.zeroValue111
  t70 := Tryd.underlying132
  a70 := Tryd.isAgg132
  z70 := Tryd.sizeOf132
  v70 := Tryd.zeroValue132
  t72 := Tryd.underlying134
  a72 := Tryd.isAgg134
  z72 := Tryd.sizeOf134
  v72 := Tryd.zeroValue134
  t75 := Tryd.underlying137
  a75 := Tryd.isAgg137
  z75 := Tryd.sizeOf137
  v75 := Tryd.zeroValue137
  t76 := Tryd.underlying138
  a76 := Tryd.isAgg138
  z76 := Tryd.sizeOf138
  v76 := Tryd.zeroValue138
  t109 := Tryd.underlying129
  a109 := Tryd.isAgg129
  z109 := Tryd.sizeOf129
  v109 := Tryd.zeroValue129
  t127 := Tryd.underlying149
  a127 := Tryd.isAgg149
  z127 := Tryd.sizeOf149
  v127 := Tryd.zeroValue149
  t146 := Tryd.underlying145
  a146 := Tryd.isAgg145
  z146 := Tryd.sizeOf145
  v146 := Tryd.zeroValue145
  t148 := Tryd.underlying147
  a148 := Tryd.isAgg147
  z148 := Tryd.sizeOf147
  v148 := Tryd.zeroValue147
  t164 := Tryd.underlying151
  a164 := Tryd.isAgg151
  z164 := Tryd.sizeOf151
  v164 := Tryd.zeroValue151 }
theorem Tryd.Builder_Extra_105 : Builder.Extra Tryd.prog Tryd.lays105_ren := {
  sizeBuilder := by kernel_rfl
  liesBuilder := by kernel_rfl
  t5 := Tryd.underlying5
  a5 := Tryd.isAgg5
  z5 := Tryd.sizeOf5
  v5 := Tryd.zeroValue5
  infoByte := by kernel_rfl
  cellsByte := by kernel_rfl
  sizeByte := by kernel_rfl
  neB5 := by decide }
open Go.RowKit Go.Lib in
/-- THE MAIN CASE: at least two copies of a string that is not empty. (LAID: no walk: one application.) -/
theorem Tryd.strings_Repeat_main (s : ByteArray) (c : Nat) (w : World) (hc2 : 2 ≤ c) (hc : c ≤ 9223372036854775807) (hlen : s.size * c ≤ 140737488355328) (h0 : 0 < s.size) :
    Calls Tryd.prog 124 #[.string s, .int .i64 c] w fun e w' => e = .returned (.string ⟨(Lib.repeatL s.data.toList c).toArray⟩) ∧ Below w.heap.size w w' := Any.strings_Repeat_main Tryd.lays105 Tryd.Builder_Extra_105 s c w hc2 hc hlen h0
open Go.RowKit Go.Lib in
theorem Tryd.strings_Repeat_zero (s : ByteArray) (w : World) :
    Calls Tryd.prog 124 #[.string s, .int .i64 0] w fun e w' => e = .returned (.string ⟨#[]⟩) ∧ w' = w := Any.strings_Repeat_zero Tryd.lays105 s w
open Go.RowKit Go.Lib in
theorem Tryd.strings_Repeat_one (s : ByteArray) (w : World) :
    Calls Tryd.prog 124 #[.string s, .int .i64 1] w fun e w' => e = .returned (.string s) ∧ w' = w := Any.strings_Repeat_one Tryd.lays105 s w
open Go.RowKit Go.Lib in
/-- Copies of the empty string. (LAID: no walk: one application.) -/
theorem Tryd.strings_Repeat_empty (s : ByteArray) (c : Nat) (w : World) (hc2 : 2 ≤ c) (hc : c ≤ 9223372036854775807) (h0 : s.size = 0) :
    Calls Tryd.prog 124 #[.string s, .int .i64 c] w fun e w' => e = .returned (.string ⟨#[]⟩) ∧ w' = w := Any.strings_Repeat_empty Tryd.lays105 s c w hc2 hc h0
open Go.RowKit Go.Lib in
/-- count < 0: "It panics if count is negative". (LAID: no walk: one application.) -/
theorem Tryd.strings_Repeat_negative (s : ByteArray) (c : Int) (w : World) (hc : c < 0) :
    Calls Tryd.prog 124 #[.string s, .int .i64 c] w fun e w' => e = .panicked [{ v := repeatPanic Tryd.lays105_ren "strings: negative Repeat count", recovered := false }] ∧ w' = w := Any.strings_Repeat_negative Tryd.lays105 s c w hc
open Go.RowKit Go.Lib in
/-- len(s) * count is no int: ".. or if the result of (len(s) * count) overflows". (LAID: no walk: one application.) -/
theorem Tryd.strings_Repeat_overflow (s : ByteArray) (c : Nat) (w : World) (hc : c ≤ 9223372036854775807) (hs : s.size ≤ 9223372036854775807) (hbig : 9223372036854775807 < s.size * c) :
    Calls Tryd.prog 124 #[.string s, .int .i64 c] w fun e w' => e = .panicked [{ v := repeatPanic Tryd.lays105_ren "strings: Repeat output length overflow", recovered := false }] ∧ w' = w := Any.strings_Repeat_overflow Tryd.lays105 s c w hc hs hbig
open Go.RowKit Go.Lib in
/-- **strings.Repeat: count ≥ 0, the result within one allocation: count copies of s.** (LAID: no walk: one application.) -/
theorem Tryd.strings_Repeat (s : ByteArray) (c : Nat) (w : World) (hc : c ≤ 9223372036854775807) (hlen : s.size * c ≤ 140737488355328) :
    Calls Tryd.prog 124 #[.string s, .int .i64 c] w fun e w' => e = .returned (.string ⟨(Lib.repeatL s.data.toList c).toArray⟩) ∧ Below w.heap.size w w' := Any.strings_Repeat Tryd.lays105 Tryd.Builder_Extra_105 s c w hc hlen
def Tryd.lays260_ren : Go.Shelf.Ren := ⟨fun | 260 => 162 | n => n, fun | 9 => 9 | 21 => 21 | 3 => 3 | 4 => 4 | 5 => 5 | 119 => 154 | 0 => 0 | 46 => 99 | 139 => 157 | 138 => 156 | n => n, fun | 3 => 0 | 4 => 1 | n => n⟩
theorem Tryd.lays260 : Go.Proofs.Lays.n260 Tryd.prog Tryd.lays260_ren := {
  mixed := by kernel_rfl
  f260 := Tryd.func162.trans (congrArg some (by kernel_rfl))
  t0 := Tryd.underlying0
  a0 := Tryd.isAgg0
  z0 := Tryd.sizeOf0
  v0 := Tryd.zeroValue0
  t3 := Tryd.underlying3
  a3 := Tryd.isAgg3
  z3 := Tryd.sizeOf3
  v3 := Tryd.zeroValue3
  t4 := Tryd.underlying4
  a4 := Tryd.isAgg4
  z4 := Tryd.sizeOf4
  v4 := Tryd.zeroValue4
  t5 := Tryd.underlying5
  a5 := Tryd.isAgg5
  z5 := Tryd.sizeOf5
  v5 := Tryd.zeroValue5
  t9 := Tryd.underlying9
  a9 := Tryd.isAgg9
  z9 := Tryd.sizeOf9
  v9 := Tryd.zeroValue9
  t21 := Tryd.underlying21
  a21 := Tryd.isAgg21
  z21 := Tryd.sizeOf21
  v21 := Tryd.zeroValue21
  t46 := Tryd.underlying99
  a46 := Tryd.isAgg99
  z46 := Tryd.sizeOf99
  v46 := Tryd.zeroValue99
  t119 := Tryd.underlying154
  a119 := Tryd.isAgg154
  z119 := Tryd.sizeOf154
  t138 := Tryd.underlying156
  a138 := Tryd.isAgg156
  z138 := Tryd.sizeOf156
  v138 := Tryd.zeroValue156
  t139 := Tryd.underlying157
  a139 := Tryd.isAgg157
  z139 := Tryd.sizeOf157
  v139 := Tryd.zeroValue157
  g3 := by kernel_rfl
  g4 := by kernel_rfl }
open Go.RowKit Go.Lib in
theorem Tryd.utf8_decodeRuneInStringSlow (s : ByteArray) (w : World) (hT : Lib.Utf8Tabs 0 1 w) :
    Calls Tryd.prog 162 #[.string s] w fun e w' => e = .returned (.tuple #[.int .i32 (Lib.decodeGo s).1, .int .i64 (Lib.decodeGo s).2]) ∧ Below w.heap.size w w' := Any.utf8_decodeRuneInStringSlow Tryd.lays260 s w hT
open Go.RowKit Go.Lib in
/-- **unicode/utf8.DecodeRuneInString AT EVERY STRING.** (LAID: no walk: one application.) -/
theorem Tryd.utf8_DecodeRuneInString (s : ByteArray) (w : World) (hT : Lib.Utf8Tabs 0 1 w) :
    Calls Tryd.prog 153 #[.string s] w fun e w' => e = .returned (.tuple #[.int .i32 (Lib.decodeGo s).1, .int .i64 (Lib.decodeGo s).2]) ∧ Below w.heap.size w w' := Any.utf8_DecodeRuneInString Tryd.lays197 s w hT
def Tryd.lays271_ren : Go.Shelf.Ren := ⟨fun | 271 => 155 | 120 => 164 | 197 => 153 | 260 => 162 | n => n, fun | 9 => 9 | 21 => 21 | 3 => 3 | 4 => 4 | 5 => 5 | 105 => 142 | 119 => 154 | 0 => 0 | 46 => 99 | 139 => 157 | 138 => 156 | n => n, fun | 3 => 0 | 4 => 1 | n => n⟩
theorem Tryd.lays271 : Go.Proofs.Lays.n271 Tryd.prog Tryd.lays271_ren := {
  mixed := by kernel_rfl
  f120 := Tryd.func164.trans (congrArg some (by kernel_rfl))
  f197 := Tryd.func153.trans (congrArg some (by kernel_rfl))
  f260 := Tryd.func162.trans (congrArg some (by kernel_rfl))
  f271 := Tryd.func155.trans (congrArg some (by kernel_rfl))
  t0 := Tryd.underlying0
  a0 := Tryd.isAgg0
  z0 := Tryd.sizeOf0
  v0 := Tryd.zeroValue0
  t3 := Tryd.underlying3
  a3 := Tryd.isAgg3
  z3 := Tryd.sizeOf3
  v3 := Tryd.zeroValue3
  t4 := Tryd.underlying4
  a4 := Tryd.isAgg4
  z4 := Tryd.sizeOf4
  v4 := Tryd.zeroValue4
  t5 := Tryd.underlying5
  a5 := Tryd.isAgg5
  z5 := Tryd.sizeOf5
  v5 := Tryd.zeroValue5
  t9 := Tryd.underlying9
  a9 := Tryd.isAgg9
  z9 := Tryd.sizeOf9
  v9 := Tryd.zeroValue9
  t21 := Tryd.underlying21
  a21 := Tryd.isAgg21
  z21 := Tryd.sizeOf21
  v21 := Tryd.zeroValue21
  t46 := Tryd.underlying99
  a46 := Tryd.isAgg99
  z46 := Tryd.sizeOf99
  v46 := Tryd.zeroValue99
  t105 := Tryd.underlying142
  a105 := Tryd.isAgg142
  z105 := Tryd.sizeOf142
  v105 := Tryd.zeroValue142
  t119 := Tryd.underlying154
  a119 := Tryd.isAgg154
  z119 := Tryd.sizeOf154
  t138 := Tryd.underlying156
  a138 := Tryd.isAgg156
  z138 := Tryd.sizeOf156
  v138 := Tryd.zeroValue156
  t139 := Tryd.underlying157
  a139 := Tryd.isAgg157
  z139 := Tryd.sizeOf157
  v139 := Tryd.zeroValue157
  g3 := by kernel_rfl
  g4 := by kernel_rfl }
open Go.RowKit Go.Lib in
/-- **unicode/utf8.DecodeLastRuneInString AT EVERY STRING.** (LAID: no walk: one application.) -/
theorem Tryd.utf8_DecodeLastRuneInString (s : ByteArray) (w : World) (hs : s.size ≤ 9223372036854775807) (hT : Lib.Utf8Tabs 0 1 w) :
    Calls Tryd.prog 155 #[.string s] w fun e w' => e = .returned (.tuple #[.int .i32 (Lib.decodeLastL s.data.toList).1, .int .i64 (Lib.decodeLastL s.data.toList).2]) ∧ Below w.heap.size w w' := Any.utf8_DecodeLastRuneInString Tryd.lays271 s w hs hT
end Go.Proofs
