/- The Lean functions that the machine tells of the program. (Merged out of this claim's own texts.) -/
import Derived.Test.YtlljkankongifaaDoorBFnPlanned2
import Derived.Shelf.Strings.SlTrimAscii
import Derived.Lib.Repeat
import Derived.Test.YtlljkankongifaaDoorProg
import Derived.Shelf.Strings.Builder1
import Derived.Shelf.Strings.Builder2
import Derived.Shelf.Strings.Trim
import Derived.Shelf.Small.Utf8
import Derived.Shelf.Small.Strs
import Derived.Shelf.Strings.BuilderF
import Derived.Shelf.Strings.BuilderK
import Derived.Shelf.Strings.Builder2Cap
import Derived.Shelf.Strings.Search1
import Derived.Shelf.Strings.Prefix
import Derived.Shelf.Unicode.Decode
import Derived.Shelf.Strings.Runes
import Derived.Shelf.Strings.AsciiSet
import Derived.Shelf.Bits.Mul64
import Derived.Shelf.Strings.Repeat
import Derived.Shelf.Unicode.DecodeSlow
import Derived.Shelf.Unicode.DecodeAny
import Derived.Shelf.Unicode.DecodeLast
import Derived.Shelf.Strings.BuilderCap
import Derived.Ground.SlgfProg
import Derived.Shelf.SlicesE.IndexFunc
namespace Go.Proofs.YtlljkankongifaaDoor.Abs
open Go Go.RowKit
set_option linter.unusedVariables false
set_option linter.unusedSectionVars false
set_option linter.unusedSimpArgs false
noncomputable section
def laws_big.f (a0 : List Int) : Option (Bool) := (some (decide ((a0.length : Int) > 1048576)))
def spec_l1Open.f (a0 : List Int) : Option (List Int × Int) := (some (a0, 0))
def spec_l1Rd_next.f (a0_0 : List Int) (a0_1 : Int) : Option (List Int × Int × Int) := (if a0_1 ≥ (a0_0.length : Int) then (some (a0_0, a0_1, 0)) else (if 0 ≤ (wrap64 ((wrap64 (a0_1 + 1)) - 1)) then (if (wrap64 ((wrap64 (a0_1 + 1)) - 1)) < (a0_0.length : Int) then (some (a0_0, (wrap64 (a0_1 + 1)), (wrap64 (rd a0_0 (wrap64 ((wrap64 (a0_1 + 1)) - 1)))))) else none) else none))
def spec_l1Rd_below.f (a0_0 : List Int) (a0_1 : Int) (a1 : Int) : Option (List Int × Int × Int) := (if a1 ≤ 1 then (some (a0_0, a0_1, 0)) else (if a1 ≤ 256 then ((spec_l1Rd_next.f a0_0 a0_1).bind fun t1 => (if a1 = 0 then none else (some (t1.1, t1.2.1, (Int.tmod t1.2.2 a1))))) else ((spec_l1Rd_next.f a0_0 a0_1).bind fun t2 => ((spec_l1Rd_next.f t2.1 t2.2.1).bind fun t3 => (if a1 = 0 then none else (some (t3.1, t3.2.1, (Int.tmod (wrap64 ((wrap64 (t2.2.2 * 256)) + t3.2.2)) a1))))))))
def spec_l1Rd_once.f (a0_0 : List Int) (a0_1 : Int) (a1 : Int) : Option (List Int × Int × Bool) := ((spec_l1Rd_below.f a0_0 a0_1 a1).bind fun t1 => (some (t1.1, t1.2.1, (decide (t1.2.2 = (wrap64 (a1 - 1)))))))
def spec_l1Rd_kinds.p8 : Nat → List Int → Int → ByteArray → Int → Option (List Int × Int × ByteArray)
 | 0, _, _, _, _ => none
 | k + 1, h0_0, h0_1, x5, x6 => (if x6 > 0 then ((spec_l1Rd_below.f h0_0 h0_1 2).bind fun t2 => (if 0 ≤ t2.2.2 then (if t2.2.2 < 2 then (if x5.size + (rdOf ByteArray.empty ([(⟨#[105]⟩ : ByteArray), (⟨#[114]⟩ : ByteArray)] : List ByteArray) t2.2.2).size ≤ 9223372036854775807 then (spec_l1Rd_kinds.p8 k t2.1 t2.2.1 (x5 ++ (rdOf ByteArray.empty ([(⟨#[105]⟩ : ByteArray), (⟨#[114]⟩ : ByteArray)] : List ByteArray) t2.2.2)) (wrap64 (x6 - 1))) else none) else none) else none)) else (some (h0_0, h0_1, x5)))
def spec_l1Rd_kinds.f (k : Nat) (a0_0 : List Int) (a0_1 : Int) (a1 : Int) : Option (List Int × Int × ByteArray) := ((spec_l1Rd_below.f a0_0 a0_1 a1).bind fun t1 => (spec_l1Rd_kinds.p8 k t1.1 t1.2.1 (⟨#[]⟩ : ByteArray) (wrap64 (1 + t1.2.2))))
def spec_l1Rd_types.p8 : Nat → List Int → Int → List ByteArray → Int → Option (List Int × Int × List ByteArray)
 | 0, _, _, _, _ => none
 | k + 1, h0_0, h0_1, x3, x4 => (if x4 > 0 then ((spec_l1Rd_once.f h0_0 h0_1 4).bind fun t3 => (if t3.2.2 = true then ((spec_l1Rd_kinds.f k t3.1 t3.2.1 23).bind fun t4 => (if x3.length + 1 ≤ 8796093022208 then (spec_l1Rd_types.p8 k t4.1 t4.2.1 (x3 ++ ([t4.2.2] : List ByteArray)) (wrap64 (x4 - 1))) else none)) else ((spec_l1Rd_kinds.f k t3.1 t3.2.1 5).bind fun t5 => (if x3.length + 1 ≤ 8796093022208 then (spec_l1Rd_types.p8 k t5.1 t5.2.1 (x3 ++ ([t5.2.2] : List ByteArray)) (wrap64 (x4 - 1))) else none)))) else (some (h0_0, h0_1, x3)))
def spec_l1Rd_types.f (k : Nat) (a0_0 : List Int) (a0_1 : Int) : Option (List Int × Int × List ByteArray) := ((spec_l1Rd_below.f a0_0 a0_1 4).bind fun t1 => (if 0 ≤ t1.2.2 then (if t1.2.2 < 4 then ((spec_l1Rd_below.f t1.1 t1.2.1 3).bind fun t2 => (spec_l1Rd_types.p8 k t2.1 t2.2.1 ([(rdOf ByteArray.empty ([(⟨#[105, 114]⟩ : ByteArray), (⟨#[114, 114, 105]⟩ : ByteArray), (⟨#[114, 105]⟩ : ByteArray), (⟨#[105, 114, 114]⟩ : ByteArray)] : List ByteArray) t1.2.2)] : List ByteArray) t2.2.2)) else none) else none))
def spec_l1Rd_word.p8 : Nat → List Int → Int → Int → Int → Option (List Int × Int × Int)
 | 0, _, _, _, _ => none
 | k + 1, h0_0, h0_1, x3, x4 => (if x4 < 8 then ((spec_l1Rd_next.f h0_0 h0_1).bind fun t1 => (spec_l1Rd_word.p8 k t1.1 t1.2.1 (orA .u64 (shlA .u64 x3 8) (IntKind.wrap .u64 t1.2.2)) (wrap64 (x4 + 1)))) else (some (h0_0, h0_1, x3)))
def spec_l1Rd_word.f (k : Nat) (a0_0 : List Int) (a0_1 : Int) : Option (List Int × Int × Int) := (spec_l1Rd_word.p8 k a0_0 a0_1 0 0)
def spec_l1Rd_odd.f (k : Nat) (a0_0 : List Int) (a0_1 : Int) : Option (List Int × Int × Int) := ((spec_l1Rd_below.f a0_0 a0_1 5).bind fun t1 => (if t1.2.2 = 0 then ((spec_l1Rd_word.f k t1.1 t1.2.1).bind fun t2 => (some (t2.1, t2.2.1, (wrap64 t2.2.2)))) else (if t1.2.2 = 1 then ((spec_l1Rd_below.f t1.1 t1.2.1 7).bind fun t3 => (if 0 ≤ t3.2.2 then (if t3.2.2 < 7 then (some (t3.1, t3.2.1, (rd ([0, (-1), 1, (-9223372036854775808), 9223372036854775807, 256, (-256)] : List Int) t3.2.2))) else none) else none)) else ((spec_l1Rd_below.f t1.1 t1.2.1 400).bind fun t4 => (some (t4.1, t4.2.1, (wrap64 (t4.2.2 - 100))))))))
def spec_l1Rd_near.f (k : Nat) (a0_0 : List Int) (a0_1 : Int) (a1 : Int) (a2 : Int) : Option (List Int × Int × Int) := ((spec_l1Rd_below.f a0_0 a0_1 8).bind fun t1 => (if t1.2.2 = 0 then (some (t1.1, t1.2.1, a1)) else (if t1.2.2 = 1 then (some (t1.1, t1.2.1, a2)) else (if a2 < a1 then (some (t1.1, t1.2.1, a1)) else ((spec_l1Rd_word.f k t1.1 t1.2.1).bind fun t2 => (if (IntKind.wrap .u64 (wrap64 ((wrap64 (a2 - a1)) + 1))) = 0 then none else (some (t2.1, t2.2.1, (wrap64 (a1 + (wrap64 (Int.tmod (shrA .u64 t2.2.2 1) (IntKind.wrap .u64 (wrap64 ((wrap64 (a2 - a1)) + 1)))))))))))))))
def spec_l1Rd_off.f (k : Nat) (a0_0 : List Int) (a0_1 : Int) (a1 : Int) (a2 : Int) : Option (List Int × Int × Int) := ((spec_l1Rd_once.f a0_0 a0_1 24).bind fun t1 => (if t1.2.2 = true then ((spec_l1Rd_below.f t1.1 t1.2.1 4).bind fun t2 => (if 0 ≤ t2.2.2 then (if t2.2.2 < 4 then (some (t2.1, t2.2.1, (rd ([(wrap64 (a1 - 1)), (wrap64 (a2 + 1)), (-9223372036854775808), 9223372036854775807] : List Int) t2.2.2))) else none) else none)) else ((spec_l1Rd_near.f k t1.1 t1.2.1 a1 a2).bind fun t3 => (some (t3.1, t3.2.1, t3.2.2)))))
def spec_l1Rd_ref.f (k : Nat) (a0_0 : List Int) (a0_1 : Int) : Option (List Int × Int × Int) := ((spec_l1Rd_below.f a0_0 a0_1 12).bind fun t1 => (if t1.2.2 = 0 then ((spec_l1Rd_off.f k t1.1 t1.2.1 0 254).bind fun t2 => (some (t2.1, t2.2.1, t2.2.2))) else (if t1.2.2 = 1 then ((spec_l1Rd_off.f k t1.1 t1.2.1 0 799).bind fun t3 => (some (t3.1, t3.2.1, t3.2.2))) else (if t1.2.2 = 2 then (some (t1.1, t1.2.1, 0)) else (if t1.2.2 = 3 then (some (t1.1, t1.2.1, 0)) else (if t1.2.2 = 4 then ((spec_l1Rd_below.f t1.1 t1.2.1 20).bind fun t4 => (some (t4.1, t4.2.1, (wrap64 (2 * (wrap64 (1 + t4.2.2))))))) else (if t1.2.2 = 5 then ((spec_l1Rd_below.f t1.1 t1.2.1 20).bind fun t5 => (some (t5.1, t5.2.1, (wrap64 (2 * (wrap64 (1 + t5.2.2))))))) else (if t1.2.2 = 6 then ((spec_l1Rd_below.f t1.1 t1.2.1 20).bind fun t6 => (some (t6.1, t6.2.1, (wrap64 (2 * (wrap64 (1 + t6.2.2))))))) else ((spec_l1Rd_below.f t1.1 t1.2.1 20).bind fun t7 => (some (t7.1, t7.2.1, (wrap64 ((wrap64 (2 * t7.2.2)) + 1)))))))))))))
def spec_l1Rd_obj.p8 : Nat → List Int → Int → List ByteArray → Int → Int → List Int → Int → Option (List Int × Int × List ByteArray × Int × List Int)
 | 0, _, _, _, _, _, _, _ => none
 | k + 1, h0_0, h0_1, h1, x4_0, x5_0, x5_1, x6 => (if 0 ≤ x5_0 then (if x5_0 < (h1.length : Int) then (if x6 < ((rdOf ByteArray.empty h1 x5_0).size : Int) then ((spec_l1Rd_odd.f k h0_0 h0_1).bind fun t2 => (if 0 ≤ x5_0 then (if x5_0 < (h1.length : Int) then (if 0 ≤ x6 then (if x6 < ((rdOf ByteArray.empty h1 x5_0).size : Int) then (if (byteAt (rdOf ByteArray.empty h1 x5_0) x6) = 114 then ((spec_l1Rd_below.f t2.1 t2.2.1 20).bind fun t3 => ((spec_l1Rd_below.f t3.1 t3.2.1 2).bind fun t4 => (if x5_1.length + 1 ≤ 17592186044416 then (spec_l1Rd_obj.p8 k t4.1 t4.2.1 h1 x4_0 x5_0 (x5_1 ++ ([(wrap64 ((wrap64 (2 * t3.2.2)) + t4.2.2))] : List Int)) (wrap64 (x6 + 1))) else none))) else (if x5_1.length + 1 ≤ 17592186044416 then (spec_l1Rd_obj.p8 k t2.1 t2.2.1 h1 x4_0 x5_0 (x5_1 ++ ([t2.2.2] : List Int)) (wrap64 (x6 + 1))) else none)) else none) else none) else none) else none)) else ((spec_l1Rd_below.f h0_0 h0_1 20).bind fun t5 => (if t5.2.2 = 0 then ((spec_l1Rd_off.f k t5.1 t5.2.1 0 (wrap64 ((h1.length : Int) - 1))).bind fun t6 => (some (t6.1, t6.2.1, h1, t6.2.2, x5_1))) else (if t5.2.2 = 1 then ((spec_l1Rd_below.f t5.1 t5.2.1 (wrap64 ((x5_1.length : Int) + 1))).bind fun t7 => (if 0 ≤ t7.2.2 then (if t7.2.2 ≤ (x5_1.length : Int) then (some (t7.1, t7.2.1, h1, x5_0, ((x5_1.take t7.2.2.toNat).drop 0))) else none) else none)) else (if t5.2.2 = 2 then ((spec_l1Rd_below.f t5.1 t5.2.1 (x5_1.length : Int)).bind fun t8 => ((spec_l1Rd_ref.f k t8.1 t8.2.1).bind fun t9 => (if 0 ≤ t8.2.2 then (if t8.2.2 < (x5_1.length : Int) then (some (t9.1, t9.2.1, h1, x5_0, (x5_1.set t8.2.2.toNat t9.2.2))) else none) else none))) else (some (t5.1, t5.2.1, h1, x5_0, x5_1))))))) else none) else none)
def spec_l1Rd_obj.f (k : Nat) (a0_0 : List Int) (a0_1 : Int) (a1 : List ByteArray) : Option (List Int × Int × List ByteArray × Int × List Int) := ((spec_l1Rd_below.f a0_0 a0_1 (a1.length : Int)).bind fun t1 => (spec_l1Rd_obj.p8 k t1.1 t1.2.1 a1 0 t1.2.2 ([] : List Int) 0))
def spec_l1Rd_hurtTypes.p30 : Nat → List Int → Int → List ByteArray → Int → Option (List Int × Int × List ByteArray)
 | 0, _, _, _, _ => none
 | k + 1, h0_0, h0_1, x1, x5 => (if x5 < 13 then ((spec_l1Rd_below.f h0_0 h0_1 3).bind fun t3 => (if (x1.length : Int) < (wrap64 (11 + t3.2.2)) then (if x1.length + 1 ≤ 8796093022208 then (spec_l1Rd_hurtTypes.p30 k t3.1 t3.2.1 (x1 ++ ([(⟨#[114]⟩ : ByteArray)] : List ByteArray)) (wrap64 (x5 + 1))) else none) else (some (t3.1, t3.2.1, x1)))) else (some (h0_0, h0_1, x1)))
def spec_l1Rd_hurtTypes.f (k : Nat) (a0_0 : List Int) (a0_1 : Int) (a1 : List ByteArray) : Option (List Int × Int × List ByteArray) := ((spec_l1Rd_below.f a0_0 a0_1 30).bind fun t1 => (if t1.2.2 = 0 then (some (t1.1, t1.2.1, ([] : List ByteArray))) else (if t1.2.2 = 1 then (if 0 < (a1.length : Int) then (some (t1.1, t1.2.1, (a1.set 0 (⟨#[]⟩ : ByteArray)))) else none) else (if t1.2.2 = 2 then (if 0 < (a1.length : Int) then (if (rdOf ByteArray.empty a1 0).size + (⟨#[120]⟩ : ByteArray).size ≤ 9223372036854775807 then (if 0 < (a1.length : Int) then (some (t1.1, t1.2.1, (a1.set 0 ((rdOf ByteArray.empty a1 0) ++ (⟨#[120]⟩ : ByteArray))))) else none) else none) else none) else (if t1.2.2 = 3 then ((spec_l1Rd_kinds.f k t1.1 t1.2.1 3).bind fun t2 => (if (⟨#[105, 105, 105, 105, 105, 105, 105, 105, 105, 105, 105, 105, 105, 105, 105, 105, 105, 105, 105, 105, 105, 105]⟩ : ByteArray).size + t2.2.2.size ≤ 9223372036854775807 then (if 0 < (a1.length : Int) then (some (t2.1, t2.2.1, (a1.set 0 ((⟨#[105, 105, 105, 105, 105, 105, 105, 105, 105, 105, 105, 105, 105, 105, 105, 105, 105, 105, 105, 105, 105, 105]⟩ : ByteArray) ++ t2.2.2)))) else none) else none)) else (if t1.2.2 = 4 then (spec_l1Rd_hurtTypes.p30 k t1.1 t1.2.1 a1 0) else (some (t1.1, t1.2.1, a1))))))))
def spec_DrawObjOk.f (k : Nat) (a0 : List Int) : Option (List ByteArray × Int × List Int) := ((spec_l1Open.f a0).bind fun t1 => ((spec_l1Rd_types.f k t1.1 t1.2).bind fun t2 => ((spec_l1Rd_obj.f k t2.1 t2.2.1 t2.2.2).bind fun t3 => ((spec_l1Rd_hurtTypes.f k t3.1 t3.2.1 t3.2.2.1).bind fun t4 => (some (t4.2.2, t3.2.2.2.1, t3.2.2.2.2))))))
def spec_DrawObjectBytes.f (k : Nat) (a0 : List Int) : Option (List ByteArray × Int × List Int) := ((spec_DrawObjOk.f k a0).bind fun t1 => (some (t1.1, t1.2.1, t1.2.2)))
def impl_size_string.f (a0 : List ByteArray) : Option (Int) := (some (a0.length : Int))
def impl_within.f (a0 : Int) (a1 : Int) (a2 : Int) : Option (Bool) := (if a0 ≥ a1 then (some (decide (a0 ≤ a2))) else (some false))
def strings_Trim.f (a0 a1 : ByteArray) : Option ByteArray :=
  if a0.size ≤ 9223372036854775807 then (if a1.size ≤ 1000 then (if a1.data.toList.all (fun b => decide (b.toNat < 128)) = true then some ⟨(Lib.trimS a0.data.toList a1.data.toList).toArray⟩ else none) else none) else none

def impl_isType.f (a0 : ByteArray) : Option (Bool) := ((impl_within.f (a0.size : Int) 1 23).bind fun t1 => (if t1 = true then ((strings_Trim.f a0 (⟨#[105, 114]⟩ : ByteArray)).bind fun t2 => (some (decide (t2.toList = (⟨#[]⟩ : ByteArray).toList)))) else (some false)))
def impl_TypesOk_1.f (a0 : ByteArray) : Option (Bool) := ((impl_isType.f a0).bind fun t1 => (some (!t1)))
def slices_IndexFunc_string_at_impl_TypesOk_1.p6 : Nat → List ByteArray → Int → Int → Option (Int)
 | 0, _, _, _ => none
 | k + 1, x0, x7, x8 => (if x8 < x7 then (if 0 ≤ x8 then (if x8 < (x0.length : Int) then ((impl_TypesOk_1.f (rdOf ByteArray.empty x0 x8)).bind fun t1 => (if t1 = true then (some x8) else (slices_IndexFunc_string_at_impl_TypesOk_1.p6 k x0 x7 (wrap64 (x8 + 1))))) else none) else none) else (some (-1)))
def slices_IndexFunc_string_at_impl_TypesOk_1.f (k : Nat) (a0 : List ByteArray) : Option (Int) := (slices_IndexFunc_string_at_impl_TypesOk_1.p6 k a0 (a0.length : Int) 0)
def slices_ContainsFunc_string_at_impl_TypesOk_1.f (k : Nat) (a0 : List ByteArray) : Option (Bool) := ((slices_IndexFunc_string_at_impl_TypesOk_1.f k a0).bind fun t1 => (some (decide (t1 ≥ 0))))
def impl_TypesOk.f (k : Nat) (a0 : List ByteArray) : Option (Bool) := ((impl_size_string.f a0).bind fun t1 => ((impl_within.f t1 1 12).bind fun t2 => (if t2 = true then ((slices_ContainsFunc_string_at_impl_TypesOk_1.f k a0).bind fun t3 => (some (!t3))) else (some false))))
def impl_RefKind.f (a0 : Int) : Option (Int) := (if a0 = 0 then (some 0) else ((impl_within.f a0 2 254).bind fun t1 => (if t1 = true then (if (Int.tmod a0 2) = 0 then (some 1) else ((impl_within.f a0 1 799).bind fun t2 => (if t2 = true then (if (Int.tmod a0 2) = 1 then (some 2) else (some (-1))) else (some (-1))))) else ((impl_within.f a0 1 799).bind fun t3 => (if t3 = true then (if (Int.tmod a0 2) = 1 then (some 2) else (some (-1))) else (some (-1)))))))
def impl_ObjOk_1.f (a0 : Int) : Option (Bool) := ((impl_RefKind.f a0).bind fun t1 => (some (decide (t1 ≥ 0))))
def impl_isObject_at_impl_ObjOk_1.p14 : Nat → List ByteArray → Int → List Int → List Int → Int → Int → Option (Bool)
 | 0, _, _, _, _, _, _ => none
 | k + 1, x0, x4_0, x4_1, x29, x30, x31 => (if x31 < x30 then (if 0 ≤ x31 then (if x31 < (x29.length : Int) then (if 0 ≤ x4_0 then (if x4_0 < (x0.length : Int) then (if 0 ≤ x31 then (if x31 < ((rdOf ByteArray.empty x0 x4_0).size : Int) then (if (byteAt (rdOf ByteArray.empty x0 x4_0) x31) = 114 then ((impl_ObjOk_1.f (rd x29 x31)).bind fun t3 => (if t3 = true then (impl_isObject_at_impl_ObjOk_1.p14 k x0 x4_0 x4_1 x29 x30 (wrap64 (x31 + 1))) else (some false))) else (impl_isObject_at_impl_ObjOk_1.p14 k x0 x4_0 x4_1 x29 x30 (wrap64 (x31 + 1)))) else none) else none) else none) else none) else none) else none) else (some true))
def impl_isObject_at_impl_ObjOk_1.f (k : Nat) (a0 : List ByteArray) (a1_0 : Int) (a1_1 : List Int) : Option (Bool) := ((impl_size_string.f a0).bind fun t1 => ((impl_within.f a1_0 0 (wrap64 (t1 - 1))).bind fun t2 => (if t2 = true then (if 0 ≤ a1_0 then (if a1_0 < (a0.length : Int) then (if (a1_1.length : Int) = ((rdOf ByteArray.empty a0 a1_0).size : Int) then (impl_isObject_at_impl_ObjOk_1.p14 k a0 a1_0 a1_1 a1_1 (a1_1.length : Int) 0) else (some false)) else none) else none) else (some false))))
def impl_ObjOk.f (k : Nat) (a0 : List ByteArray) (a1_0 : Int) (a1_1 : List Int) : Option (Bool) := ((impl_TypesOk.f k a0).bind fun t1 => (if t1 = true then ((impl_isObject_at_impl_ObjOk_1.f k a0 a1_0 a1_1).bind fun t2 => (some t2)) else (some false)))
def impl_bigBytes.p8 : Nat → Int → Int → List Int → Int → Int → Option (ByteArray)
 | 0, _, _, _, _, _ => none
 | k + 1, x0, x1, x5, x10, x11 => (if x11 < x10 then (if 0 ≤ (wrap64 ((wrap64 (x1 - 1)) - x11)) then (if (wrap64 ((wrap64 (x1 - 1)) - x11)) < (x5.length : Int) then (impl_bigBytes.p8 k (shrA .u64 x0 8) x1 (x5.set (wrap64 ((wrap64 (x1 - 1)) - x11)).toNat (x0 % 256)) x10 (wrap64 (x11 + 1))) else none) else none) else (some (strOf x5)))
def impl_bigBytes.f (k : Nat) (a0 : Int) (a1 : Int) : Option (ByteArray) := (if 0 ≤ a1 then (if a1.toNat ≤ 281474976710656 then (impl_bigBytes.p8 k a0 a1 (List.replicate a1.toNat (0 : Int)) ((List.replicate a1.toNat (0 : Int)).length : Int) 0) else none) else none)
def impl_WordBytes.f (k : Nat) (a0 : Int) : Option (ByteArray) := ((impl_bigBytes.f k (IntKind.wrap .u64 a0) 8).bind fun t1 => (some t1))
def impl_runOf.f (a0 : ByteArray) : Option (Int) := (some (wrap64 (Int.tdiv (wrap64 ((a0.size : Int) + 8)) 8)))
def strings_Repeat.f (a0 : ByteArray) (a1 : Int) : Option ByteArray :=
  if 0 ≤ a1 then (if a1 ≤ 1048576 then (if a0.size ≤ 1048576 then some ⟨(Lib.repeatL a0.data.toList a1.toNat).toArray⟩ else none) else none) else none

def impl_zeros.f (a0 : Int) : Option (ByteArray) := ((strings_Repeat.f (⟨#[0]⟩ : ByteArray) a0).bind fun t1 => (some t1))
def impl_objectBytes.p8 : Nat → List ByteArray → Int → List Int → ByteArray → List Int → Int → Int → Option (ByteArray)
 | 0, _, _, _, _, _, _, _ => none
 | k + 1, x0, x3_0, x3_1, x5, x13, x14, x15 => (if x15 < x14 then (if 0 ≤ x15 then (if x15 < (x13.length : Int) then ((impl_WordBytes.f k (rd x13 x15)).bind fun t2 => (if x5.size + t2.size ≤ 9223372036854775807 then (impl_objectBytes.p8 k x0 x3_0 x3_1 (x5 ++ t2) x13 x14 (wrap64 (x15 + 1))) else none)) else none) else none) else (if 0 ≤ x3_0 then (if x3_0 < (x0.length : Int) then ((impl_runOf.f (rdOf ByteArray.empty x0 x3_0)).bind fun t3 => ((impl_zeros.f (wrap64 ((wrap64 (64 * t3)) - (x5.size : Int)))).bind fun t4 => (if x5.size + t4.size ≤ 9223372036854775807 then (some (x5 ++ t4)) else none))) else none) else none))
def impl_objectBytes.f (k : Nat) (a0 : List ByteArray) (a1_0 : Int) (a1_1 : List Int) : Option (ByteArray) := ((impl_WordBytes.f k (wrap64 (a1_0 + 1))).bind fun t1 => (impl_objectBytes.p8 k a0 a1_0 a1_1 t1 a1_1 (a1_1.length : Int) 0))
def impl_ObjectBytes.f (k : Nat) (a0 : List ByteArray) (a1_0 : Int) (a1_1 : List Int) : Option (ByteArray) := ((impl_ObjOk.f k a0 a1_0 a1_1).bind fun t1 => (if t1 = true then ((impl_objectBytes.f k a0 a1_0 a1_1).bind fun t2 => (some t2)) else (some (⟨#[]⟩ : ByteArray))))
def spec_l1In.f (a0 : Int) (a1 : Int) (a2 : Int) : Option (Bool) := (if a0 ≥ a1 then (some (decide (a0 ≤ a2))) else (some false))
def spec_l3Type.p6 : Nat → ByteArray → Int → Option (Bool)
 | 0, _, _ => none
 | k + 1, x0, x3 => (if x3 < (x0.size : Int) then (if 0 ≤ x3 then (if x3 < (x0.size : Int) then (if (byteAt x0 x3) = 105 then (spec_l3Type.p6 k x0 (wrap64 (x3 + 1))) else (if 0 ≤ x3 then (if x3 < (x0.size : Int) then (if (byteAt x0 x3) = 114 then (spec_l3Type.p6 k x0 (wrap64 (x3 + 1))) else (some false)) else none) else none)) else none) else none) else ((spec_l1In.f (x0.size : Int) 1 23).bind fun t1 => (some t1)))
def spec_l3Type.f (k : Nat) (a0 : ByteArray) : Option (Bool) := (spec_l3Type.p6 k a0 0)
def spec_TypesOk.p14 : Nat → List ByteArray → Int → Option (Bool)
 | 0, _, _ => none
 | k + 1, x0, x3 => (if x3 < (x0.length : Int) then (if 0 ≤ x3 then (if x3 < (x0.length : Int) then ((spec_l3Type.f k (rdOf ByteArray.empty x0 x3)).bind fun t2 => (if t2 = true then (spec_TypesOk.p14 k x0 (wrap64 (x3 + 1))) else (some false))) else none) else none) else (some true))
def spec_TypesOk.f (k : Nat) (a0 : List ByteArray) : Option (Bool) := ((spec_l1In.f (a0.length : Int) 1 12).bind fun t1 => (if t1 = true then (spec_TypesOk.p14 k a0 0) else (some false)))
def spec_RefKind.f (a0 : Int) : Option (Int) := (if a0 = 0 then (some 0) else ((spec_l1In.f a0 2 254).bind fun t1 => (if t1 = true then (if (Int.tmod a0 2) = 0 then (some 1) else ((spec_l1In.f a0 1 799).bind fun t2 => (if t2 = true then (if (Int.tmod a0 2) = 1 then (some 2) else (some (-1))) else (some (-1))))) else ((spec_l1In.f a0 1 799).bind fun t3 => (if t3 = true then (if (Int.tmod a0 2) = 1 then (some 2) else (some (-1))) else (some (-1)))))))
def spec_ObjOk.p14 : Nat → List ByteArray → Int → List Int → Int → Option (Bool)
 | 0, _, _, _, _ => none
 | k + 1, x0, x3_0, x3_1, x5 => (if x5 < (x3_1.length : Int) then (if 0 ≤ x3_0 then (if x3_0 < (x0.length : Int) then (if 0 ≤ x5 then (if x5 < ((rdOf ByteArray.empty x0 x3_0).size : Int) then (if (byteAt (rdOf ByteArray.empty x0 x3_0) x5) = 114 then (if 0 ≤ x5 then (if x5 < (x3_1.length : Int) then ((spec_RefKind.f (rd x3_1 x5)).bind fun t3 => (if t3 < 0 then (some false) else (spec_ObjOk.p14 k x0 x3_0 x3_1 (wrap64 (x5 + 1))))) else none) else none) else (spec_ObjOk.p14 k x0 x3_0 x3_1 (wrap64 (x5 + 1)))) else none) else none) else none) else none) else (some true))
def spec_ObjOk.f (k : Nat) (a0 : List ByteArray) (a1_0 : Int) (a1_1 : List Int) : Option (Bool) := ((spec_TypesOk.f k a0).bind fun t1 => (if t1 = true then ((spec_l1In.f a1_0 0 (wrap64 ((a0.length : Int) - 1))).bind fun t2 => (if t2 = true then (if 0 ≤ a1_0 then (if a1_0 < (a0.length : Int) then (if (a1_1.length : Int) = ((rdOf ByteArray.empty a0 a1_0).size : Int) then (spec_ObjOk.p14 k a0 a1_0 a1_1 0) else (some false)) else none) else none) else (some false))) else (some false)))
def spec_WordBytes.p8 : Nat → Int → List Int → Int → Option (ByteArray)
 | 0, _, _, _ => none
 | k + 1, x0, x3, x4 => (if x4 < 8 then (if (IntKind.wrap .u64 (wrap64 (56 - (wrap64 (8 * x4))))) < 0 then none else (if 0 ≤ x4 then (if x4 < (x3.length : Int) then (spec_WordBytes.p8 k x0 (x3.set x4.toNat ((shrA .u64 (IntKind.wrap .u64 x0) (IntKind.wrap .u64 (wrap64 (56 - (wrap64 (8 * x4)))))) % 256)) (wrap64 (x4 + 1))) else none) else none)) else (some (strOf x3)))
def spec_WordBytes.f (k : Nat) (a0 : Int) : Option (ByteArray) := (spec_WordBytes.p8 k a0 (List.replicate 8 (0 : Int)) 0)
def spec_RunOf.f (k : Nat) (a0 : ByteArray) : Option (Int) := ((spec_l3Type.f k a0).bind fun t1 => (if t1 = true then (some (wrap64 (Int.tdiv (wrap64 ((wrap64 (1 + (a0.size : Int))) + 7)) 8))) else (some 0)))
def spec_l1Zeros.f (a0 : Int) : Option (ByteArray) := (if 0 ≤ a0 then (if a0.toNat ≤ 281474976710656 then (some (strOf (List.replicate a0.toNat (0 : Int)))) else none) else none)
def spec_ObjectBytes.p16 : Nat → List ByteArray → Int → List Int → ByteArray → Int → Option (ByteArray)
 | 0, _, _, _, _, _ => none
 | k + 1, x0, x3_0, x3_1, x5, x6 => (if x6 < (x3_1.length : Int) then (if 0 ≤ x6 then (if x6 < (x3_1.length : Int) then ((spec_WordBytes.f k (rd x3_1 x6)).bind fun t3 => (if x5.size + t3.size ≤ 9223372036854775807 then (spec_ObjectBytes.p16 k x0 x3_0 x3_1 (x5 ++ t3) (wrap64 (x6 + 1))) else none)) else none) else none) else (if 0 ≤ x3_0 then (if x3_0 < (x0.length : Int) then ((spec_RunOf.f k (rdOf ByteArray.empty x0 x3_0)).bind fun t4 => ((spec_l1Zeros.f (wrap64 ((wrap64 (64 * t4)) - (x5.size : Int)))).bind fun t5 => (if x5.size + t5.size ≤ 9223372036854775807 then (some (x5 ++ t5)) else none))) else none) else none))
def spec_ObjectBytes.f (k : Nat) (a0 : List ByteArray) (a1_0 : Int) (a1_1 : List Int) : Option (ByteArray) := ((spec_ObjOk.f k a0 a1_0 a1_1).bind fun t1 => (if t1 = true then ((spec_WordBytes.f k (wrap64 (a1_0 + 1))).bind fun t2 => (spec_ObjectBytes.p16 k a0 a1_0 a1_1 t2 0)) else (some (⟨#[]⟩ : ByteArray))))
def spec_l1Rd_hurt.f (a0_0 : List Int) (a0_1 : Int) (a1 : ByteArray) : Option (List Int × Int × ByteArray) := ((spec_l1Rd_below.f a0_0 a0_1 6).bind fun t1 => (if t1.2.2 = 1 then ((spec_l1Rd_below.f t1.1 t1.2.1 (wrap64 ((a1.size : Int) + 1))).bind fun t2 => (if 0 ≤ t2.2.2 then (if t2.2.2 ≤ (a1.size : Int) then (some (t2.1, t2.2.1, (a1.extract 0 t2.2.2.toNat))) else none) else none)) else (if t1.2.2 = 2 then (if (a1.size : Int) > 0 then ((spec_l1Rd_below.f t1.1 t1.2.1 (a1.size : Int)).bind fun t3 => (if 0 ≤ t3.2.2 then (if t3.2.2 ≤ (a1.size : Int) then ((spec_l1Rd_below.f t3.1 t3.2.1 4).bind fun t4 => (if 0 ≤ t4.2.2 then (if t4.2.2 < 4 then (if (a1.extract 0 t3.2.2.toNat).size + (rdOf ByteArray.empty ([(⟨#[0]⟩ : ByteArray), (⟨#[55]⟩ : ByteArray), (⟨#[255]⟩ : ByteArray), (⟨#[32]⟩ : ByteArray)] : List ByteArray) t4.2.2).size ≤ 9223372036854775807 then (if 0 ≤ (wrap64 (t3.2.2 + 1)) then (if (wrap64 (t3.2.2 + 1)) ≤ (a1.size : Int) then (if ((a1.extract 0 t3.2.2.toNat) ++ (rdOf ByteArray.empty ([(⟨#[0]⟩ : ByteArray), (⟨#[55]⟩ : ByteArray), (⟨#[255]⟩ : ByteArray), (⟨#[32]⟩ : ByteArray)] : List ByteArray) t4.2.2)).size + (a1.extract (wrap64 (t3.2.2 + 1)).toNat (a1.size : Int).toNat).size ≤ 9223372036854775807 then (some (t4.1, t4.2.1, (((a1.extract 0 t3.2.2.toNat) ++ (rdOf ByteArray.empty ([(⟨#[0]⟩ : ByteArray), (⟨#[55]⟩ : ByteArray), (⟨#[255]⟩ : ByteArray), (⟨#[32]⟩ : ByteArray)] : List ByteArray) t4.2.2)) ++ (a1.extract (wrap64 (t3.2.2 + 1)).toNat (a1.size : Int).toNat)))) else none) else none) else none) else none) else none) else none)) else none) else none)) else (some (t1.1, t1.2.1, a1))) else (if t1.2.2 = 3 then ((spec_l1Rd_below.f t1.1 t1.2.1 4).bind fun t5 => (if 0 ≤ t5.2.2 then (if t5.2.2 < 4 then (if a1.size + (rdOf ByteArray.empty ([(⟨#[0]⟩ : ByteArray), (⟨#[49]⟩ : ByteArray), (⟨#[10]⟩ : ByteArray), (⟨#[32]⟩ : ByteArray)] : List ByteArray) t5.2.2).size ≤ 9223372036854775807 then (some (t5.1, t5.2.1, (a1 ++ (rdOf ByteArray.empty ([(⟨#[0]⟩ : ByteArray), (⟨#[49]⟩ : ByteArray), (⟨#[10]⟩ : ByteArray), (⟨#[32]⟩ : ByteArray)] : List ByteArray) t5.2.2)))) else none) else none) else none)) else (some (t1.1, t1.2.1, a1))))))
def spec_l2With.f (a0 : ByteArray) (a1 : Int) (a2 : ByteArray) : Option (ByteArray) := (if 0 ≤ a1 then (if a1 ≤ (a0.size : Int) then (if (a0.extract 0 a1.toNat).size + a2.size ≤ 9223372036854775807 then (if 0 ≤ (wrap64 (a1 + (a2.size : Int))) then (if (wrap64 (a1 + (a2.size : Int))) ≤ (a0.size : Int) then (if ((a0.extract 0 a1.toNat) ++ a2).size + (a0.extract (wrap64 (a1 + (a2.size : Int))).toNat (a0.size : Int).toNat).size ≤ 9223372036854775807 then (some (((a0.extract 0 a1.toNat) ++ a2) ++ (a0.extract (wrap64 (a1 + (a2.size : Int))).toNat (a0.size : Int).toNat))) else none) else none) else none) else none) else none) else none)
def spec_DrawReadObject.f (k : Nat) (a0 : List Int) : Option (List ByteArray × ByteArray) := ((spec_l1Open.f a0).bind fun t1 => ((spec_l1Rd_types.f k t1.1 t1.2).bind fun t2 => ((spec_l1Rd_obj.f k t2.1 t2.2.1 t2.2.2).bind fun t3 => ((spec_ObjectBytes.f k t3.2.2.1 t3.2.2.2.1 t3.2.2.2.2).bind fun t4 => ((spec_l1Rd_below.f t3.1 t3.2.1 6).bind fun t5 => (if t5.2.2 = 0 then ((spec_l1Rd_hurt.f t5.1 t5.2.1 t4).bind fun t6 => (some (t3.2.2.1, t6.2.2))) else (if t5.2.2 = 1 then (if t4.toList = (⟨#[]⟩ : ByteArray).toList then (some (t3.2.2.1, t4)) else ((spec_l1Rd_below.f t5.1 t5.2.1 (t4.size : Int)).bind fun t7 => ((spec_l1Rd_below.f t7.1 t7.2.1 4).bind fun t8 => ((spec_l2With.f t4 t7.2.2 (strOf ([(t8.2.2 % 256)] : List Int))).bind fun t9 => (some (t3.2.2.1, t9)))))) else (if t5.2.2 = 2 then ((spec_l1Zeros.f 64).bind fun t10 => (if t4.size + t10.size ≤ 9223372036854775807 then (some (t3.2.2.1, (t4 ++ t10))) else none)) else (some (t3.2.2.1, t4))))))))))
def impl_wordAt.p8 : Nat → ByteArray → Int → Int → Int → Option (Int)
 | 0, _, _, _, _ => none
 | k + 1, x0, x1, x5, x7 => (if x7 < 8 then (if 0 ≤ (wrap64 (x1 + x7)) then (if (wrap64 (x1 + x7)) < (x0.size : Int) then (impl_wordAt.p8 k x0 x1 (orA .i64 (shlA .i64 x5 8) (wrap64 (byteAt x0 (wrap64 (x1 + x7))))) (wrap64 (x7 + 1))) else none) else none) else (some x5))
def impl_wordAt.f (k : Nat) (a0 : ByteArray) (a1 : Int) : Option (Int) := (impl_wordAt.p8 k a0 a1 0 0)
def impl_objectOf.p8 : Nat → ByteArray → Int → Int → List Int → Int → Int → Option (Int × List Int)
 | 0, _, _, _, _, _, _ => none
 | k + 1, x2, x6_0, x7_0, x7_1, x15, x16 => (if x16 < x15 then ((impl_wordAt.f k x2 (wrap64 (8 + (wrap64 (8 * x16))))).bind fun t1 => (if x7_1.length + 1 ≤ 17592186044416 then (impl_objectOf.p8 k x2 x6_0 x7_0 (x7_1 ++ ([t1] : List Int)) x15 (wrap64 (x16 + 1))) else none)) else (some (x7_0, x7_1)))
def impl_objectOf.f (k : Nat) (a0 : List ByteArray) (a1 : Int) (a2 : ByteArray) : Option (Int × List Int) := (if 0 ≤ a1 then (if a1 < (a0.length : Int) then (impl_objectOf.p8 k a2 0 a1 ([] : List Int) ((rdOf ByteArray.empty a0 a1).size : Int) 0) else none) else none)
mutual
def impl_ReadObject.p5 : Nat → List ByteArray → ByteArray → Int → Bool → Option (Int × List Int × Bool)
 | 0, _, _, _, _ => none
 | k + 1, x0, x1, x4_0, x15 => (if x15 = true then (some (0, ([] : List Int), false)) else ((impl_wordAt.f k x1 0).bind fun t4 => ((impl_size_string.f x0).bind fun t5 => ((impl_within.f t4 1 t5).bind fun t6 => (if t6 = true then (if 0 ≤ (wrap64 (t4 - 1)) then (if (wrap64 (t4 - 1)) < (x0.length : Int) then ((impl_runOf.f (rdOf ByteArray.empty x0 (wrap64 (t4 - 1)))).bind fun t7 => (impl_ReadObject.p15 k x0 x1 x4_0 t4 (!decide ((x1.size : Int) = (wrap64 (64 * t7)))))) else none) else none) else (impl_ReadObject.p15 k x0 x1 x4_0 t4 true))))))
def impl_ReadObject.p15 : Nat → List ByteArray → ByteArray → Int → Int → Bool → Option (Int × List Int × Bool)
 | 0, _, _, _, _, _ => none
 | k + 1, x0, x1, x4_0, x6, x35 => (if x35 = true then (some (0, ([] : List Int), false)) else ((impl_objectOf.f k x0 (wrap64 (x6 - 1)) x1).bind fun t2 => ((impl_ObjectBytes.f k x0 t2.1 t2.2).bind fun t3 => (if t3.toList = x1.toList then (some (t2.1, t2.2, true)) else (some (0, ([] : List Int), false))))))
end
def impl_ReadObject.f (k : Nat) (a0 : List ByteArray) (a1 : ByteArray) : Option (Int × List Int × Bool) := ((impl_TypesOk.f k a0).bind fun t1 => (if t1 = true then (impl_ReadObject.p5 k a0 a1 0 (decide ((a1.size : Int) < 8))) else (impl_ReadObject.p5 k a0 a1 0 true)))
def spec_ReadWord.p16 : Nat → ByteArray → Int → Int → Option (Int × Bool)
 | 0, _, _, _ => none
 | k + 1, x0, x4, x5 => (if x5 < 8 then (if 0 ≤ x5 then (if x5 < (x0.size : Int) then (spec_ReadWord.p16 k x0 (orA .u64 (shlA .u64 x4 8) (IntKind.wrap .u64 (byteAt x0 x5))) (wrap64 (x5 + 1))) else none) else none) else (some ((wrap64 x4), true)))
def spec_ReadWord.f (k : Nat) (a0 : ByteArray) : Option (Int × Bool) := (if (a0.size : Int) = 8 then (spec_ReadWord.p16 k a0 0 0) else (some (0, false)))
mutual
def spec_ReadObject.p5 : Nat → List ByteArray → ByteArray → Int → Bool → Option (Int × List Int × Bool)
 | 0, _, _, _, _ => none
 | k + 1, x0, x1, x4_0, x19 => (if x19 = true then (some (0, ([] : List Int), false)) else (if 8 ≤ (x1.size : Int) then ((spec_ReadWord.f k (x1.extract 0 8)).bind fun t4 => ((spec_l1In.f t4.1 1 (x0.length : Int)).bind fun t5 => (if t5 = true then (if 0 ≤ (wrap64 (t4.1 - 1)) then (if (wrap64 (t4.1 - 1)) < (x0.length : Int) then ((spec_RunOf.f k (rdOf ByteArray.empty x0 (wrap64 (t4.1 - 1)))).bind fun t6 => (if (x1.size : Int) = (wrap64 (64 * t6)) then (spec_ReadObject.p26 k x0 x1 x4_0 t4.1 (wrap64 (t4.1 - 1)) ([] : List Int) 0) else (some (0, ([] : List Int), false)))) else none) else none) else (some (0, ([] : List Int), false))))) else none))
def spec_ReadObject.p26 : Nat → List ByteArray → ByteArray → Int → Int → Int → List Int → Int → Option (Int × List Int × Bool)
 | 0, _, _, _, _, _, _, _ => none
 | k + 1, x0, x1, x4_0, x6, x8_0, x8_1, x9 => (if 0 ≤ (wrap64 (x6 - 1)) then (if (wrap64 (x6 - 1)) < (x0.length : Int) then (if x9 < ((rdOf ByteArray.empty x0 (wrap64 (x6 - 1))).size : Int) then (if 0 ≤ (wrap64 (16 + (wrap64 (8 * x9)))) then (if (wrap64 (16 + (wrap64 (8 * x9)))) ≤ (x1.size : Int) then (if 0 ≤ (wrap64 (8 + (wrap64 (8 * x9)))) then (if (wrap64 (8 + (wrap64 (8 * x9)))) ≤ (wrap64 (16 + (wrap64 (8 * x9)))) then ((spec_ReadWord.f k (x1.extract (wrap64 (8 + (wrap64 (8 * x9)))).toNat (wrap64 (16 + (wrap64 (8 * x9)))).toNat)).bind fun t2 => (if x8_1.length + 1 ≤ 17592186044416 then (spec_ReadObject.p26 k x0 x1 x4_0 x6 x8_0 (x8_1 ++ ([t2.1] : List Int)) (wrap64 (x9 + 1))) else none)) else none) else none) else none) else none) else ((spec_ObjectBytes.f k x0 x8_0 x8_1).bind fun t3 => (if t3.toList = x1.toList then (some (x8_0, x8_1, true)) else (some (0, ([] : List Int), false))))) else none) else none)
end
def spec_ReadObject.f (k : Nat) (a0 : List ByteArray) (a1 : ByteArray) : Option (Int × List Int × Bool) := ((spec_TypesOk.f k a0).bind fun t1 => (if t1 = true then (spec_ReadObject.p5 k a0 a1 0 (decide ((a1.size : Int) < 64))) else (spec_ReadObject.p5 k a0 a1 0 true)))
def laws_sameInts.p14 : Nat → List Int → List Int → Int → Option (Bool)
 | 0, _, _, _ => none
 | k + 1, x0, x1, x5 => (if x5 < (x0.length : Int) then (if 0 ≤ x5 then (if x5 < (x0.length : Int) then (if 0 ≤ x5 then (if x5 < (x1.length : Int) then (if (rd x0 x5) = (rd x1 x5) then (laws_sameInts.p14 k x0 x1 (wrap64 (x5 + 1))) else (some false)) else none) else none) else none) else none) else (some true))
def laws_sameInts.f (k : Nat) (a0 : List Int) (a1 : List Int) : Option (Bool) := (if (a0.length : Int) = (a1.length : Int) then (laws_sameInts.p14 k a0 a1 0) else (some false))
def laws_sameObj.f (k : Nat) (a0_0 : Int) (a0_1 : List Int) (a1_0 : Int) (a1_1 : List Int) : Option (Bool) := (if a0_0 = a1_0 then ((laws_sameInts.f k a0_1 a1_1).bind fun t1 => (some t1)) else (some false))
def impl_RunOf.f (a0 : ByteArray) : Option (Int) := ((impl_isType.f a0).bind fun t1 => (if t1 = true then ((impl_runOf.f a0).bind fun t2 => (some t2)) else (some 0)))
def laws_FnObjects.p23 : Nat → List ByteArray → Int → List Int → ByteArray → Bool → Option (Bool)
 | 0, _, _, _, _, _ => none
 | k + 1, x3, x4_0, x4_1, x5, x66 => (if x66 = true then (some false) else ((impl_ReadObject.f k x3 x5).bind fun t10 => ((spec_ObjOk.f k x3 x4_0 x4_1).bind fun t11 => (if t10.2.2 = t11 then ((impl_ObjOk.f k x3 x4_0 x4_1).bind fun t12 => (if t10.2.2 = t12 then (if t10.2.2 = true then ((laws_sameObj.f k t10.1 t10.2.1 x4_0 x4_1).bind fun t13 => (if t13 = true then (if 0 ≤ x4_0 then (if x4_0 < (x3.length : Int) then ((impl_RunOf.f (rdOf ByteArray.empty x3 x4_0)).bind fun t14 => (some (decide ((x5.size : Int) = (wrap64 (64 * t14)))))) else none) else none) else (some false))) else (some true)) else (some false))) else (some false)))))
def laws_FnObjects.f (k : Nat) (a0 : List Int) : Option (Bool) := ((laws_big.f a0).bind fun t1 => (if t1 = true then (some true) else ((spec_DrawObjectBytes.f k a0).bind fun t2 => ((impl_ObjectBytes.f k t2.1 t2.2.1 t2.2.2).bind fun t3 => ((spec_DrawReadObject.f k a0).bind fun t4 => ((impl_ReadObject.f k t4.1 t4.2).bind fun t5 => ((spec_ReadObject.f k t4.1 t4.2).bind fun t6 => ((spec_ObjectBytes.f k t2.1 t2.2.1 t2.2.2).bind fun t7 => (if t3.toList = t7.toList then (if t5.2.2 = t6.2.2 then ((laws_sameObj.f k t5.1 t5.2.1 t6.1 t6.2.1).bind fun t8 => (if t8 = true then (if t5.2.2 = true then ((impl_ObjectBytes.f k t4.1 t5.1 t5.2.1).bind fun t9 => (laws_FnObjects.p23 k t2.1 t2.2.1 t2.2.2 t3 (!decide (t9.toList = t4.2.toList)))) else (laws_FnObjects.p23 k t2.1 t2.2.1 t2.2.2 t3 false)) else (laws_FnObjects.p23 k t2.1 t2.2.1 t2.2.2 t3 true))) else (laws_FnObjects.p23 k t2.1 t2.2.1 t2.2.2 t3 true)) else (laws_FnObjects.p23 k t2.1 t2.2.1 t2.2.2 t3 true))))))))))
/-- What is left to show. -/
def laws_FnObjects.Pure : Prop := ∀ (x0 : List Int), Ty.ok (.sl (.int .u8)) x0 → ∃ k, laws_FnObjects.f k x0 = some true
def spec_l1Rd_config.p16 : Nat → List Int → Int → Int → Int → Int → Int → Int → Int → List ByteArray → Option (List Int × Int × Int × Int × Int × List ByteArray)
 | 0, _, _, _, _, _, _, _, _, _ => none
 | k + 1, h0_0, h0_1, x2_0, x2_1, x2_2, x3_0, x3_1, x3_2, x3_3 => (some (h0_0, h0_1, x3_0, x3_1, x3_2, x3_3))
def spec_l1Rd_config.f (k : Nat) (a0_0 : List Int) (a0_1 : Int) : Option (List Int × Int × Int × Int × Int × List ByteArray) := ((spec_l1Rd_below.f a0_0 a0_1 10).bind fun t1 => ((spec_l1Rd_below.f t1.1 t1.2.1 40).bind fun t2 => ((spec_l1Rd_types.f k t2.1 t2.2.1).bind fun t3 => ((spec_l1Rd_below.f t3.1 t3.2.1 14).bind fun t4 => ((spec_l1Rd_once.f t4.1 t4.2.1 3).bind fun t5 => (if t5.2.2 = true then ((spec_l1Rd_below.f t5.1 t5.2.1 200).bind fun t6 => (spec_l1Rd_config.p16 k t6.1 t6.2.1 0 0 0 (if 128 < (wrap64 ((wrap64 ((wrap64 (4 + (wrap64 (1 + t1.2.2)))) + (wrap64 (4 + t4.2.2)))) + 40)) then 128 else (wrap64 ((wrap64 ((wrap64 (4 + (wrap64 (1 + t1.2.2)))) + (wrap64 (4 + t4.2.2)))) + 40))) 10 (wrap64 (4 + t6.2.2)) t3.2.2)) else (spec_l1Rd_config.p16 k t5.1 t5.2.1 0 0 0 (wrap64 ((wrap64 (4 + (wrap64 (1 + t1.2.2)))) + (wrap64 (4 + t4.2.2)))) (wrap64 (1 + t1.2.2)) (wrap64 (4 + t2.2.2)) t3.2.2)))))))
def spec_l1Rd_lines.p10 : Nat → List Int → Int → List Int → Int → Int → Option (List Int × Int × List Int)
 | 0, _, _, _, _, _ => none
 | k + 1, h0_0, h0_1, x3, x4, x5 => (if x5 < 128 then (if x3.length + 1 ≤ 17592186044416 then ((spec_l1Rd_below.f h0_0 h0_1 x4).bind fun t3 => (spec_l1Rd_lines.p10 k t3.1 t3.2.1 (x3 ++ ([x5] : List Int)) x4 (wrap64 ((wrap64 (x5 + 1)) + t3.2.2)))) else none) else (some (h0_0, h0_1, x3)))
def spec_l1Rd_lines.f (k : Nat) (a0_0 : List Int) (a0_1 : Int) : Option (List Int × Int × List Int) := ((spec_l1Rd_below.f a0_0 a0_1 12).bind fun t1 => ((spec_l1Rd_below.f t1.1 t1.2.1 (wrap64 (1 + t1.2.2))).bind fun t2 => (spec_l1Rd_lines.p10 k t2.1 t2.2.1 ([] : List Int) (wrap64 (1 + t1.2.2)) t2.2.2)))
def spec_l6MapOf.p8 : Nat → List Int → List Int → Int → Option (ByteArray)
 | 0, _, _, _ => none
 | k + 1, x0, x3, x4 => (if x4 < (x0.length : Int) then (if 0 ≤ x4 then (if x4 < (x0.length : Int) then (if 0 ≤ (wrap64 (Int.tdiv (rd x0 x4) 8)) then (if (wrap64 (Int.tdiv (rd x0 x4) 8)) < (x3.length : Int) then (if 0 ≤ x4 then (if x4 < (x0.length : Int) then (if (IntKind.wrap .u64 (Int.tmod (rd x0 x4) 8)) < 0 then none else (if 0 ≤ (wrap64 (Int.tdiv (rd x0 x4) 8)) then (if (wrap64 (Int.tdiv (rd x0 x4) 8)) < (x3.length : Int) then (spec_l6MapOf.p8 k x0 (x3.set (wrap64 (Int.tdiv (rd x0 x4) 8)).toNat (orA .u8 (rd x3 (wrap64 (Int.tdiv (rd x0 x4) 8))) (shlA .u8 1 (IntKind.wrap .u64 (Int.tmod (rd x0 x4) 8))))) (wrap64 (x4 + 1))) else none) else none)) else none) else none) else none) else none) else none) else none) else (some (strOf x3)))
def spec_l6MapOf.f (k : Nat) (a0 : List Int) : Option (ByteArray) := (spec_l6MapOf.p8 k a0 (List.replicate 64 (0 : Int)) 0)
def spec_l1Rd_aMap.f (k : Nat) (a0_0 : List Int) (a0_1 : Int) : Option (List Int × Int × ByteArray) := ((spec_l1Rd_lines.f k a0_0 a0_1).bind fun t1 => ((spec_l6MapOf.f k t1.2.2).bind fun t2 => ((spec_l1Rd_once.f t1.1 t1.2.1 20).bind fun t3 => (if t3.2.2 = true then ((spec_l1Rd_hurt.f t3.1 t3.2.1 t2).bind fun t4 => (some (t4.1, t4.2.1, t4.2.2))) else (some (t3.1, t3.2.1, t2))))))
def spec_DrawPlanned.p20 : Nat → Int → Int → Int → List Int → Int → Int → Int → Int → List ByteArray → ByteArray → List Int → Int → Option (Int × Int × Int × List ByteArray × ByteArray × List Int)
 | 0, _, _, _, _, _, _, _, _, _, _, _, _ => none
 | k + 1, x2_0, x2_1, x2_2, x5_0, x5_1, x6_0, x6_1, x6_2, x6_3, x7, x8, x9 => (if x9 > 0 then ((spec_l1Rd_below.f x5_0 x5_1 (x6_3.length : Int)).bind fun t8 => (if x8.length + 1 ≤ 17592186044416 then (spec_DrawPlanned.p20 k x2_0 x2_1 x2_2 t8.1 t8.2.1 x6_0 x6_1 x6_2 x6_3 x7 (x8 ++ ([t8.2.2] : List Int)) (wrap64 (x9 - 1))) else none)) else ((spec_l1Rd_once.f x5_0 x5_1 12).bind fun t9 => (if t9.2.2 = true then ((spec_l1Rd_off.f k t9.1 t9.2.1 0 (wrap64 ((x6_3.length : Int) - 1))).bind fun t10 => (if x8.length + 1 ≤ 17592186044416 then (some (x6_0, x6_1, x6_2, x6_3, x7, (x8 ++ ([t10.2.2] : List Int)))) else none)) else (some (x6_0, x6_1, x6_2, x6_3, x7, x8)))))
def spec_DrawPlanned.f (k : Nat) (a0 : List Int) : Option (Int × Int × Int × List ByteArray × ByteArray × List Int) := ((spec_l1Open.f a0).bind fun t1 => ((spec_l1Rd_config.f k t1.1 t1.2).bind fun t2 => ((spec_l1Rd_aMap.f k t2.1 t2.2.1).bind fun t3 => ((spec_l1Rd_once.f t3.1 t3.2.1 2).bind fun t4 => (if t4.2.2 = true then ((spec_l1Zeros.f 64).bind fun t5 => ((spec_l1Rd_below.f t4.1 t4.2.1 8).bind fun t6 => (spec_DrawPlanned.p20 k 0 0 0 t6.1 t6.2.1 t2.2.2.1 t2.2.2.2.1 t2.2.2.2.2.1 t2.2.2.2.2.2 t5 ([] : List Int) t6.2.2))) else ((spec_l1Rd_below.f t4.1 t4.2.1 8).bind fun t7 => (spec_DrawPlanned.p20 k 0 0 0 t7.1 t7.2.1 t2.2.2.1 t2.2.2.2.1 t2.2.2.2.2.1 t2.2.2.2.2.2 t3.2.2 ([] : List Int) t7.2.2)))))))
def impl_ConfigOk.f (k : Nat) (a0_0 : Int) (a0_1 : Int) (a0_2 : Int) (a0_3 : List ByteArray) : Option (Bool) := ((impl_within.f a0_0 8 128).bind fun t1 => (if t1 = true then ((impl_within.f a0_1 1 (if (wrap64 (a0_0 - 5)) < 32 then (wrap64 (a0_0 - 5)) else 32)).bind fun t2 => (if t2 = true then ((impl_within.f a0_2 2 400).bind fun t3 => (if t3 = true then ((impl_TypesOk.f k a0_3).bind fun t4 => (some t4)) else (some false))) else (some false))) else (some false)))
def impl_isMap.f (a0 : ByteArray) : Option (Bool) := (if (a0.size : Int) = 64 then (if 16 ≤ (a0.size : Int) then ((impl_zeros.f 48).bind fun t1 => (some (decide ((a0.extract 16 (a0.size : Int).toNat).toList = t1.toList)))) else none) else (some false))
def impl_Planned_1.f (a0 : Int) (a1 : Int × Int × Int × List ByteArray) : Option (Bool) := ((impl_size_string.f a1.2.2.2).bind fun t1 => ((impl_within.f a0 0 (wrap64 (t1 - 1))).bind fun t2 => (some (!t2))))
def slices_IndexFunc_int64_at_impl_Planned_1.p6 : Nat → List Int → Int × Int × Int × List ByteArray → Int → Int → Option (Int)
 | 0, _, _, _, _ => none
 | k + 1, x0, x1_0, x7, x8 => (if x8 < x7 then (if 0 ≤ x8 then (if x8 < (x0.length : Int) then ((impl_Planned_1.f (rd x0 x8) x1_0).bind fun t1 => (if t1 = true then (some x8) else (slices_IndexFunc_int64_at_impl_Planned_1.p6 k x0 x1_0 x7 (wrap64 (x8 + 1))))) else none) else none) else (some (-1)))
def slices_IndexFunc_int64_at_impl_Planned_1.f (k : Nat) (a0 : List Int) (a1_0 : Int × Int × Int × List ByteArray) : Option (Int) := (slices_IndexFunc_int64_at_impl_Planned_1.p6 k a0 a1_0 (a0.length : Int) 0)
def slices_ContainsFunc_int64_at_impl_Planned_1.f (k : Nat) (a0 : List Int) (a1_0 : Int × Int × Int × List ByteArray) : Option (Bool) := ((slices_IndexFunc_int64_at_impl_Planned_1.f k a0 a1_0).bind fun t1 => (some (decide (t1 ≥ 0))))
def impl_isArea.f (a0 : ByteArray) (a1 : Int) (a2 : Int) : Option (Bool) := ((impl_isMap.f a0).bind fun t1 => (if t1 = true then (if a1 ≥ 0 then (if a1 ≤ a2 then (some (decide (a2 ≤ 128))) else (some false)) else (some false)) else (some false)))
def impl_isTaken.f (a0 : ByteArray) (a1 : Int) : Option (Bool) := (if 0 ≤ (wrap64 (Int.tdiv a1 8)) then (if (wrap64 (Int.tdiv a1 8)) < (a0.size : Int) then (if (Int.tmod a1 8) < 0 then none else (some (decide ((andA .u8 (shrA .u8 (byteAt a0 (wrap64 (Int.tdiv a1 8))) (Int.tmod a1 8)) 1) = 1)))) else none) else none)
mutual
def impl_gaps.p8 : Nat → ByteArray → Int → List (Int × Int) → Int → Option (List (Int × Int))
 | 0, _, _, _, _ => none
 | k + 1, x0, x2, x7, x8 => (if x8 < x2 then ((impl_isTaken.f x0 x8).bind fun t1 => (if t1 = true then (impl_gaps.p8 k x0 x2 x7 (wrap64 (x8 + 1))) else (if (wrap64 ((x7.length : Int) - 1)) ≥ 0 then (if 0 ≤ (wrap64 ((x7.length : Int) - 1)) then (if (wrap64 ((x7.length : Int) - 1)) < (x7.length : Int) then (if 0 ≤ (wrap64 ((x7.length : Int) - 1)) then (if (wrap64 ((x7.length : Int) - 1)) < (x7.length : Int) then (impl_gaps.p27 k x0 x2 x7 x8 (wrap64 ((x7.length : Int) - 1)) (decide ((wrap64 ((rdOf (0, 0) x7 (wrap64 ((x7.length : Int) - 1))).1 + (rdOf (0, 0) x7 (wrap64 ((x7.length : Int) - 1))).2)) = x8))) else none) else none) else none) else none) else (impl_gaps.p27 k x0 x2 x7 x8 (wrap64 ((x7.length : Int) - 1)) false)))) else (some x7))
def impl_gaps.p27 : Nat → ByteArray → Int → List (Int × Int) → Int → Int → Bool → Option (List (Int × Int))
 | 0, _, _, _, _, _, _ => none
 | k + 1, x0, x2, x7, x8, x9, x39 => (if x39 = true then (if 0 ≤ x9 then (if x9 < (x7.length : Int) then (if 0 ≤ x9 then (if x9 < (x7.length : Int) then (impl_gaps.p8 k x0 x2 (x7.set x9.toNat ((rdOf (0, 0) x7 x9).1, (wrap64 ((rdOf (0, 0) x7 x9).2 + 1)))) (wrap64 (x8 + 1))) else none) else none) else none) else none) else (if x7.length + 1 ≤ 8796093022208 then (impl_gaps.p8 k x0 x2 (x7 ++ ([(x8, 1)] : List (Int × Int))) (wrap64 (x8 + 1))) else none))
end
def impl_gaps.f (k : Nat) (a0 : ByteArray) (a1 : Int) (a2 : Int) : Option (List (Int × Int)) := (impl_gaps.p8 k a0 a2 ([] : List (Int × Int)) a1)
def impl_FindRun.p14 : Nat → Int → List (Int × Int) → Int → Int → Option (Int)
 | 0, _, _, _, _ => none
 | k + 1, x3, x24, x25, x26 => (if x26 < x25 then (if 0 ≤ x26 then (if x26 < (x24.length : Int) then (if (rdOf (0, 0) x24 x26).2 ≥ x3 then (some (rdOf (0, 0) x24 x26).1) else (impl_FindRun.p14 k x3 x24 x25 (wrap64 (x26 + 1)))) else none) else none) else (some (-1)))
def impl_FindRun.f (k : Nat) (a0 : ByteArray) (a1 : Int) (a2 : Int) (a3 : Int) : Option (Int) := ((impl_isArea.f a0 a1 a2).bind fun t1 => (if t1 = true then ((impl_within.f a3 1 128).bind fun t2 => (if t2 = true then ((impl_gaps.f k a0 a1 a2).bind fun t3 => (impl_FindRun.p14 k a3 t3 (t3.length : Int) 0)) else (some (-1)))) else (some (-1))))
mutual
def impl_changedMap.p8 : Nat → Int → Int → Bool → List Int → Int → Option (ByteArray)
 | 0, _, _, _, _, _ => none
 | k + 1, x1, x2, x3, x9, x10 => (if x10 < (wrap64 (x1 + x2)) then (if 0 ≤ (wrap64 (Int.tdiv x10 8)) then (if (wrap64 (Int.tdiv x10 8)) < (x9.length : Int) then (if (Int.tmod x10 8) < 0 then none else (if 0 ≤ (wrap64 (Int.tdiv x10 8)) then (if (wrap64 (Int.tdiv x10 8)) < (x9.length : Int) then (if x3 = true then (if 0 ≤ (wrap64 (Int.tdiv x10 8)) then (if (wrap64 (Int.tdiv x10 8)) < ((x9.set (wrap64 (Int.tdiv x10 8)).toNat (andNotA .u8 (rd x9 (wrap64 (Int.tdiv x10 8))) (shlA .u8 1 (Int.tmod x10 8)))).length : Int) then (if (Int.tmod x10 8) < 0 then none else (if 0 ≤ (wrap64 (Int.tdiv x10 8)) then (if (wrap64 (Int.tdiv x10 8)) < ((x9.set (wrap64 (Int.tdiv x10 8)).toNat (andNotA .u8 (rd x9 (wrap64 (Int.tdiv x10 8))) (shlA .u8 1 (Int.tmod x10 8)))).length : Int) then (impl_changedMap.p24 k x1 x2 x3 ((x9.set (wrap64 (Int.tdiv x10 8)).toNat (andNotA .u8 (rd x9 (wrap64 (Int.tdiv x10 8))) (shlA .u8 1 (Int.tmod x10 8)))).set (wrap64 (Int.tdiv x10 8)).toNat (orA .u8 (rd (x9.set (wrap64 (Int.tdiv x10 8)).toNat (andNotA .u8 (rd x9 (wrap64 (Int.tdiv x10 8))) (shlA .u8 1 (Int.tmod x10 8)))) (wrap64 (Int.tdiv x10 8))) (shlA .u8 1 (Int.tmod x10 8)))) x10) else none) else none)) else none) else none) else (impl_changedMap.p24 k x1 x2 x3 (x9.set (wrap64 (Int.tdiv x10 8)).toNat (andNotA .u8 (rd x9 (wrap64 (Int.tdiv x10 8))) (shlA .u8 1 (Int.tmod x10 8)))) x10)) else none) else none)) else none) else none) else (some (strOf x9)))
def impl_changedMap.p24 : Nat → Int → Int → Bool → List Int → Int → Option (ByteArray)
 | 0, _, _, _, _, _ => none
 | k + 1, x1, x2, x3, x9, x10 => (impl_changedMap.p8 k x1 x2 x3 x9 (wrap64 (x10 + 1)))
end
def impl_changedMap.f (k : Nat) (a0 : ByteArray) (a1 : Int) (a2 : Int) (a3 : Bool) : Option (ByteArray) := (impl_changedMap.p8 k a1 a2 a3 (numsOf a0) a1)
def impl_planned.p8 : Nat → ByteArray → Int → Int → Int → List ByteArray → List Int → List Int → Int → Int → Option (List Int × ByteArray × Bool)
 | 0, _, _, _, _, _, _, _, _, _ => none
 | k + 1, x1, x3_0, x3_1, x3_2, x3_3, x9, x15, x16, x17 => (if x17 < x16 then (if 0 ≤ x17 then (if x17 < (x15.length : Int) then (if 0 ≤ (rd x15 x17) then (if (rd x15 x17) < (x3_3.length : Int) then ((impl_runOf.f (rdOf ByteArray.empty x3_3 (rd x15 x17))).bind fun t1 => ((impl_FindRun.f k x1 (wrap64 (4 + x3_1)) x3_0 t1).bind fun t2 => (if t2 < 0 then (some (([] : List Int), (⟨#[]⟩ : ByteArray), false)) else ((impl_changedMap.f k x1 t2 t1 true).bind fun t3 => (if x9.length + 1 ≤ 17592186044416 then (impl_planned.p8 k t3 x3_0 x3_1 x3_2 x3_3 (x9 ++ ([t2] : List Int)) x15 x16 (wrap64 (x17 + 1))) else none))))) else none) else none) else none) else none) else (some (x9, x1, true)))
def impl_planned.f (k : Nat) (a0_0 : Int) (a0_1 : Int) (a0_2 : Int) (a0_3 : List ByteArray) (a1 : ByteArray) (a2 : List Int) : Option (List Int × ByteArray × Bool) := (impl_planned.p8 k a1 a0_0 a0_1 a0_2 a0_3 ([] : List Int) a2 (a2.length : Int) 0)
def impl_Planned.f (k : Nat) (a0_0 : Int) (a0_1 : Int) (a0_2 : Int) (a0_3 : List ByteArray) (a1 : ByteArray) (a2 : List Int) : Option (List Int × Bool) := ((impl_ConfigOk.f k a0_0 a0_1 a0_2 a0_3).bind fun t1 => (if t1 = true then ((impl_isMap.f a1).bind fun t2 => (if t2 = true then (if (a2.length : Int) > 400 then (some (([] : List Int), false)) else ((slices_ContainsFunc_int64_at_impl_Planned_1.f k a2 (a0_0, (a0_1, (a0_2, a0_3)))).bind fun t3 => (if t3 = true then (some (([] : List Int), false)) else ((impl_planned.f k a0_0 a0_1 a0_2 a0_3 a1 a2).bind fun t4 => (some (t4.1, t4.2.2)))))) else (some (([] : List Int), false)))) else (some (([] : List Int), false))))
def spec_ConfigOk.f (k : Nat) (a0_0 : Int) (a0_1 : Int) (a0_2 : Int) (a0_3 : List ByteArray) : Option (Bool) := ((spec_l1In.f a0_0 8 128).bind fun t1 => (if t1 = true then ((spec_l1In.f a0_1 1 32).bind fun t2 => (if t2 = true then (if a0_1 ≤ (wrap64 (a0_0 - 5)) then ((spec_l1In.f a0_2 2 400).bind fun t3 => (if t3 = true then ((spec_TypesOk.f k a0_3).bind fun t4 => (some t4)) else (some false))) else (some false)) else (some false))) else (some false)))
def spec_l6Map.f (a0 : ByteArray) : Option (Bool) := (if (a0.size : Int) = 64 then (if 16 ≤ (a0.size : Int) then ((spec_l1Zeros.f 48).bind fun t1 => (some (decide ((a0.extract 16 (a0.size : Int).toNat).toList = t1.toList)))) else none) else (some false))
def spec_l6Range.f (a0 : ByteArray) (a1 : Int) (a2 : Int) : Option (Bool) := ((spec_l6Map.f a0).bind fun t1 => (if t1 = true then (if a1 ≥ 0 then (if a1 ≤ a2 then (some (decide (a2 ≤ 128))) else (some false)) else (some false)) else (some false)))
def spec_l6Bit.f (a0 : ByteArray) (a1 : Int) : Option (Bool) := (if 0 ≤ (wrap64 (Int.tdiv a1 8)) then (if (wrap64 (Int.tdiv a1 8)) < (a0.size : Int) then (if (IntKind.wrap .u64 (Int.tmod a1 8)) < 0 then none else (some (decide ((andA .u8 (shrA .u8 (byteAt a0 (wrap64 (Int.tdiv a1 8))) (IntKind.wrap .u64 (Int.tmod a1 8))) 1) = 1)))) else none) else none)
def spec_l6Free.p6 : Nat → ByteArray → Int → Int → Int → Option (Bool)
 | 0, _, _, _, _ => none
 | k + 1, x0, x1, x2, x7 => (if x7 < (wrap64 (x1 + x2)) then ((spec_l6Bit.f x0 x7).bind fun t1 => (if t1 = true then (some false) else (spec_l6Free.p6 k x0 x1 x2 (wrap64 (x7 + 1))))) else (some true))
def spec_l6Free.f (k : Nat) (a0 : ByteArray) (a1 : Int) (a2 : Int) : Option (Bool) := (spec_l6Free.p6 k a0 a1 a2 a1)
def spec_FindRun.p14 : Nat → ByteArray → Int → Int → Int → Option (Int)
 | 0, _, _, _, _ => none
 | k + 1, x0, x2, x3, x9 => (if (wrap64 (x9 + x3)) ≤ x2 then ((spec_l6Free.f k x0 x9 x3).bind fun t3 => (if t3 = true then (some x9) else (spec_FindRun.p14 k x0 x2 x3 (wrap64 (x9 + 1))))) else (some (-1)))
def spec_FindRun.f (k : Nat) (a0 : ByteArray) (a1 : Int) (a2 : Int) (a3 : Int) : Option (Int) := ((spec_l6Range.f a0 a1 a2).bind fun t1 => (if t1 = true then ((spec_l1In.f a3 1 128).bind fun t2 => (if t2 = true then (spec_FindRun.p14 k a0 a2 a3 a1) else (some (-1)))) else (some (-1))))
def spec_l6Turn.p8 : Nat → Int → Int → List Int → Int → Option (ByteArray)
 | 0, _, _, _, _ => none
 | k + 1, x1, x2, x7, x8 => (if x8 < (wrap64 (x1 + x2)) then (if 0 ≤ (wrap64 (Int.tdiv x8 8)) then (if (wrap64 (Int.tdiv x8 8)) < (x7.length : Int) then (if (IntKind.wrap .u64 (Int.tmod x8 8)) < 0 then none else (if 0 ≤ (wrap64 (Int.tdiv x8 8)) then (if (wrap64 (Int.tdiv x8 8)) < (x7.length : Int) then (spec_l6Turn.p8 k x1 x2 (x7.set (wrap64 (Int.tdiv x8 8)).toNat (xorA .u8 (rd x7 (wrap64 (Int.tdiv x8 8))) (shlA .u8 1 (IntKind.wrap .u64 (Int.tmod x8 8))))) (wrap64 (x8 + 1))) else none) else none)) else none) else none) else (some (strOf x7)))
def spec_l6Turn.f (k : Nat) (a0 : ByteArray) (a1 : Int) (a2 : Int) : Option (ByteArray) := (spec_l6Turn.p8 k a1 a2 (numsOf a0) a1)
def spec_l10Plan.p8 : Nat → ByteArray → List Int → Int → Int → Int → List ByteArray → List Int → Int → Option (List Int × ByteArray × Bool)
 | 0, _, _, _, _, _, _, _, _ => none
 | k + 1, x1, x2, x3_0, x3_1, x3_2, x3_3, x9, x10 => (if x10 < (x2.length : Int) then (if 0 ≤ x10 then (if x10 < (x2.length : Int) then (if 0 ≤ (rd x2 x10) then (if (rd x2 x10) < (x3_3.length : Int) then ((spec_RunOf.f k (rdOf ByteArray.empty x3_3 (rd x2 x10))).bind fun t1 => ((spec_FindRun.f k x1 (wrap64 (4 + x3_1)) x3_0 t1).bind fun t2 => (if t2 < 0 then (some (([] : List Int), (⟨#[]⟩ : ByteArray), false)) else ((spec_l6Turn.f k x1 t2 t1).bind fun t3 => (if x9.length + 1 ≤ 17592186044416 then (spec_l10Plan.p8 k t3 x2 x3_0 x3_1 x3_2 x3_3 (x9 ++ ([t2] : List Int)) (wrap64 (x10 + 1))) else none))))) else none) else none) else none) else none) else (some (x9, x1, true)))
def spec_l10Plan.f (k : Nat) (a0_0 : Int) (a0_1 : Int) (a0_2 : Int) (a0_3 : List ByteArray) (a1 : ByteArray) (a2 : List Int) : Option (List Int × ByteArray × Bool) := (spec_l10Plan.p8 k a1 a2 a0_0 a0_1 a0_2 a0_3 ([] : List Int) 0)
def spec_Planned.p14 : Nat → ByteArray → List Int → Int → Int → Int → List ByteArray → Int → Option (List Int × Bool)
 | 0, _, _, _, _, _, _, _ => none
 | k + 1, x1, x2, x3_0, x3_1, x3_2, x3_3, x8 => (if x8 < (x2.length : Int) then (if 0 ≤ x8 then (if x8 < (x2.length : Int) then ((spec_l1In.f (rd x2 x8) 0 (wrap64 ((x3_3.length : Int) - 1))).bind fun t3 => (if t3 = true then (spec_Planned.p14 k x1 x2 x3_0 x3_1 x3_2 x3_3 (wrap64 (x8 + 1))) else (some (([] : List Int), false)))) else none) else none) else ((spec_l10Plan.f k x3_0 x3_1 x3_2 x3_3 x1 x2).bind fun t4 => (some (t4.1, t4.2.2))))
def spec_Planned.f (k : Nat) (a0_0 : Int) (a0_1 : Int) (a0_2 : Int) (a0_3 : List ByteArray) (a1 : ByteArray) (a2 : List Int) : Option (List Int × Bool) := ((spec_ConfigOk.f k a0_0 a0_1 a0_2 a0_3).bind fun t1 => (if t1 = true then ((spec_l6Map.f a1).bind fun t2 => (if t2 = true then (if (a2.length : Int) > 400 then (some (([] : List Int), false)) else (spec_Planned.p14 k a1 a2 a0_0 a0_1 a0_2 a0_3 0)) else (some (([] : List Int), false)))) else (some (([] : List Int), false))))
def impl_isRun.p14 : Nat → ByteArray → Int → Int → Bool → Int → Option (Bool)
 | 0, _, _, _, _, _ => none
 | k + 1, x0, x1, x2, x3, x9 => (if x9 < (wrap64 (x1 + x2)) then ((impl_isTaken.f x0 x9).bind fun t4 => (if t4 = x3 then (impl_isRun.p14 k x0 x1 x2 x3 (wrap64 (x9 + 1))) else (some false))) else (some true))
def impl_isRun.f (k : Nat) (a0 : ByteArray) (a1 : Int) (a2 : Int) (a3 : Bool) : Option (Bool) := ((impl_isMap.f a0).bind fun t1 => (if t1 = true then ((impl_within.f a2 1 128).bind fun t2 => (if t2 = true then ((impl_within.f a1 0 (wrap64 (128 - a2))).bind fun t3 => (if t3 = true then (impl_isRun.p14 k a0 a1 a2 a3 a1) else (some false))) else (some false))) else (some false)))
def impl_TakeRun.f (k : Nat) (a0 : ByteArray) (a1 : Int) (a2 : Int) : Option (ByteArray × Bool) := ((impl_isRun.f k a0 a1 a2 false).bind fun t1 => (if t1 = true then ((impl_changedMap.f k a0 a1 a2 true).bind fun t2 => (some (t2, true))) else (some ((⟨#[]⟩ : ByteArray), false))))
def impl_FirstData.f (k : Nat) (a0_0 : Int) (a0_1 : Int) (a0_2 : Int) (a0_3 : List ByteArray) : Option (Int) := ((impl_ConfigOk.f k a0_0 a0_1 a0_2 a0_3).bind fun t1 => (if t1 = true then (some (wrap64 (4 + a0_1))) else (some (-1))))
def laws_FnPlanned.p28 : Nat → Int → Int → Int → List ByteArray → ByteArray → List Int → List Int → Int → Option (Bool)
 | 0, _, _, _, _, _, _, _, _ => none
 | k + 1, x3_0, x3_1, x3_2, x3_3, x4, x5, x6, x10 => (if x10 < (x6.length : Int) then (if 0 ≤ x10 then (if x10 < (x5.length : Int) then (if 0 ≤ (rd x5 x10) then (if (rd x5 x10) < (x3_3.length : Int) then ((impl_RunOf.f (rdOf ByteArray.empty x3_3 (rd x5 x10))).bind fun t9 => (if 0 ≤ x10 then (if x10 < (x6.length : Int) then ((impl_TakeRun.f k x4 (rd x6 x10) t9).bind fun t10 => (if t10.2 = true then (if 0 ≤ x10 then (if x10 < (x6.length : Int) then ((impl_FirstData.f k x3_0 x3_1 x3_2 x3_3).bind fun t11 => (if (rd x6 x10) < t11 then (some false) else (if 0 ≤ x10 then (if x10 < (x6.length : Int) then (if (wrap64 ((rd x6 x10) + t9)) > x3_0 then (some false) else (laws_FnPlanned.p28 k x3_0 x3_1 x3_2 x3_3 t10.1 x5 x6 (wrap64 (x10 + 1)))) else none) else none))) else none) else none) else (some false))) else none) else none)) else none) else none) else none) else none) else ((impl_Planned.f k x3_0 x3_1 x3_2 x3_3 x4 ([] : List Int)).bind fun t12 => (if (x6.length : Int) = (x5.length : Int) then (some (decide ((t12.1.length : Int) = 0))) else (some false))))
def laws_FnPlanned.f (k : Nat) (a0 : List Int) : Option (Bool) := ((laws_big.f a0).bind fun t1 => (if t1 = true then (some true) else ((spec_DrawPlanned.f k a0).bind fun t2 => ((impl_Planned.f k t2.1 t2.2.1 t2.2.2.1 t2.2.2.2.1 t2.2.2.2.2.1 t2.2.2.2.2.2).bind fun t3 => ((spec_Planned.f k t2.1 t2.2.1 t2.2.2.1 t2.2.2.2.1 t2.2.2.2.2.1 t2.2.2.2.2.2).bind fun t4 => (if t3.2 = t4.2 then ((laws_sameInts.f k t3.1 t4.1).bind fun t5 => (if t5 = true then (if t3.2 = true then (laws_FnPlanned.p28 k t2.1 t2.2.1 t2.2.2.1 t2.2.2.2.1 t2.2.2.2.2.1 t2.2.2.2.2.2 t3.1 0) else (if t3.2 = t4.2 then ((laws_sameInts.f k t3.1 t4.1).bind fun t6 => (some t6)) else (some false))) else (if t3.2 = t4.2 then ((laws_sameInts.f k t3.1 t4.1).bind fun t7 => (some t7)) else (some false)))) else (if t3.2 = t4.2 then ((laws_sameInts.f k t3.1 t4.1).bind fun t8 => (some t8)) else (some false))))))))
/-- What is left to show. -/
def laws_FnPlanned.Pure : Prop := ∀ (x0 : List Int), Ty.ok (.sl (.int .u8)) x0 → ∃ k, laws_FnPlanned.f k x0 = some true
end
end Go.Proofs.YtlljkankongifaaDoor.Abs
namespace Go.Proofs.YtlljkankongifaaDoor.Abs
open Go Go.RowKit
set_option linter.unusedVariables false
set_option linter.unusedSectionVars false
set_option linter.unusedSimpArgs false

/-- A code and a place in it. -/
structure Rd (l : List Int) (p : Int) : Prop where
  bytes : isBytes l
  len : l.length ≤ 1099511627776
  lo : 0 ≤ p
  hi : p ≤ l.length
theorem Rd.start {l : List Int} (hb : isBytes l) (hl : l.length ≤ 1099511627776) : Rd l 0 := ⟨hb, hl, by omega, by omega⟩
theorem next_f {l : List Int} {p : Int} (h : Rd l p) : ∃ b q, spec_l1Rd_next.f l p = some (l, q, b) ∧ 0 ≤ b ∧ b ≤ 255 ∧ Rd l q := by
  obtain ⟨hb, hl, h0, h1⟩ := h
  unfold spec_l1Rd_next.f
  by_cases c : p ≥ (l.length : Int)
  · exact ⟨0, p, by rw [if_pos c], by omega, by omega, hb, hl, h0, h1⟩
  · have hg := isBytes_getD hb p.toNat
    have e : rd l p = l.getD p.toNat 0 := rfl
    rw [if_neg c, w64 (x := p + 1) (by omega) (by omega), w64 (x := p + 1 - 1) (by omega) (by omega), show p + 1 - 1 = p from by omega, if_pos h0, if_pos (by omega), w64 (x := rd l p) (by omega) (by omega)]
    exact ⟨_, _, rfl, by omega, by omega, hb, hl, by omega, by omega⟩
theorem tmod_range {x n : Int} (hx : 0 ≤ x) (hn : 0 < n) : 0 ≤ Int.tmod x n ∧ Int.tmod x n < n := by
  rw [Int.tmod_eq_emod_of_nonneg hx]
  exact ⟨Int.emod_nonneg _ (by omega), Int.emod_lt_of_pos _ hn⟩
/-- below n: one of 0 .. n - 1. -/
theorem below_f {l : List Int} {p : Int} (h : Rd l p) (n : Int) (hn : 1 ≤ n) (hn2 : n ≤ 65536) : ∃ v q, spec_l1Rd_below.f l p n = some (l, q, v) ∧ 0 ≤ v ∧ v < n ∧ Rd l q := by
  unfold spec_l1Rd_below.f
  by_cases c : n ≤ 1
  · exact ⟨0, p, by rw [if_pos c], by omega, by omega, h⟩
  · rw [if_neg c]
    by_cases c2 : n ≤ 256
    · obtain ⟨b, q, e, h0, h1, hq⟩ := next_f h
      have hm := tmod_range h0 (show 0 < n by omega)
      rw [if_pos c2, e, Option.bind_some, if_neg (by omega)]
      exact ⟨_, _, rfl, hm.1, hm.2, hq⟩
    · obtain ⟨b, q, e, h0, h1, hq⟩ := next_f h
      obtain ⟨b2, q2, e2, h2, h3, hq2⟩ := next_f hq
      have hm := tmod_range (show 0 ≤ b * 256 + b2 by omega) (show 0 < n by omega)
      rw [if_neg c2, e, Option.bind_some]
      simp only []
      rw [e2, Option.bind_some, if_neg (by omega)]
      simp only []
      rw [w64 (x := b * 256) (by omega) (by omega), w64 (x := b * 256 + b2) (by omega) (by omega)]
      exact ⟨_, _, rfl, hm.1, hm.2, hq2⟩
theorem once_f {l : List Int} {p : Int} (h : Rd l p) (n : Int) (hn : 1 ≤ n) (hn2 : n ≤ 65536) : ∃ v q, spec_l1Rd_once.f l p n = some (l, q, v) ∧ Rd l q := by
  obtain ⟨v, q, e, _, _, hq⟩ := below_f h n hn hn2
  unfold spec_l1Rd_once.f
  rw [e, Option.bind_some]
  exact ⟨_, _, rfl, hq⟩
/-- word: a number of 64 bits. -/
theorem word_ev {l : List Int} {p : Int} (h : Rd l p) : ∃ v q, Ev (fun k => spec_l1Rd_word.f k l p) (l, q, v) ∧ 0 ≤ v ∧ v < 18446744073709551616 ∧ Rd l q := by
  have lp : ∀ (d i : Nat) (f : Nat → Int) (p : Int), 8 - i = d → i ≤ 8 → (∀ j, 0 ≤ f j ∧ f j ≤ 255) → Rd l p → ∃ v q, Ev (fun k => spec_l1Rd_word.p8 k l p (be f i) (i : Int)) (l, q, v) ∧ 0 ≤ v ∧ v < 18446744073709551616 ∧ Rd l q := by
    intro d
    induction d with
    | zero =>
      intro i f p hd hi hf hp
      obtain rfl : i = 8 := by omega
      have hr := be_range f hf 8
      have e8 : (256 : Int) ^ 8 = 18446744073709551616 := by decide
      exact ⟨_, _, Ev.step (fun k => by rw [spec_l1Rd_word.p8]) (Ev.neg (by omega) (Ev.eq rfl)), hr.1, by omega, hp⟩
    | succ d ih =>
      intro i f p hd hi hf hp
      obtain ⟨b, q, e, h0, h1, hq⟩ := next_f hp
      obtain ⟨v, q2, he, hv⟩ := ih (i + 1) (fun j => if j = i then b else f j) q (by omega) (by omega) (fun j => by
        by_cases c : j = i
        · simp only [if_pos c]; exact ⟨h0, h1⟩
        · simp only [if_neg c]; exact hf j) hq
      refine ⟨v, q2, Ev.step (fun k => by rw [spec_l1Rd_word.p8]) (Ev.pos (by omega) (Ev.bindo e ?_)), hv⟩
      have hb := be_step_u64 (fun j => if j = i then b else f j) (fun j => by
        by_cases c : j = i
        · simp only [if_pos c]; exact ⟨h0, h1⟩
        · simp only [if_neg c]; exact hf j) i (by omega)
      rw [be_congr (f := fun j => if j = i then b else f j) (g := f) i (fun j hj => if_neg (by omega))] at hb
      simp only [if_true] at hb
      simp only []
      rw [shl8_u64, orA_eq, hb, show wrap64 ((i : Int) + 1) = ((i + 1 : Nat) : Int) from by rw [w64 (by omega) (by omega)]; omega]
      exact he
  unfold spec_l1Rd_word.f
  exact lp 8 0 (fun _ => 0) p rfl (by omega) (fun _ => by omega) h
theorem u64_id {x : Int} (h0 : 0 ≤ x) (h1 : x < 18446744073709551616) : IntKind.u64.wrap x = x := by
  simp [IntKind.wrap, IntKind.bits, IntKind.signed]
  omega
/-- near lo hi: one of lo .. hi, or an end of it. -/
theorem near_ev {l : List Int} {p : Int} (h : Rd l p) (lo hi : Int) (h0 : -2305843009213693952 ≤ lo) (h1 : lo ≤ 2305843009213693952) (h2 : -2305843009213693952 ≤ hi) (h3 : hi ≤ 2305843009213693952) :
    ∃ v q, Ev (fun k => spec_l1Rd_near.f k l p lo hi) (l, q, v) ∧ (lo ≤ hi → lo ≤ v ∧ v ≤ hi) ∧ (v = hi ∨ lo ≤ v) ∧ -2305843009213693952 ≤ v ∧ v ≤ 2305843009213693952 ∧ Rd l q := by
  obtain ⟨v, q, e, hv0, hv1, hq⟩ := below_f h 8 (by omega) (by omega)
  unfold spec_l1Rd_near.f
  by_cases c0 : v = 0
  · exact ⟨_, _, Ev.bindo e (Ev.pos c0 (Ev.eq rfl)), fun _ => by omega, by omega, by omega, by omega, hq⟩
  · by_cases c1 : v = 1
    · exact ⟨_, _, Ev.bindo e (Ev.neg c0 (Ev.pos c1 (Ev.eq rfl))), fun _ => by omega, by omega, by omega, by omega, hq⟩
    · by_cases c2 : hi < lo
      · exact ⟨_, _, Ev.bindo e (Ev.neg c0 (Ev.neg c1 (Ev.pos c2 (Ev.eq rfl)))), fun _ => by omega, by omega, by omega, by omega, hq⟩
      · obtain ⟨w, q2, ew, hw0, hw1, hq2⟩ := word_ev hq
        have hm := tmod_range (show 0 ≤ w / 2 by omega) (show 0 < hi - lo + 1 by omega)
        refine ⟨lo + Int.tmod (w / 2) (hi - lo + 1), q2, Ev.bindo e (Ev.neg c0 (Ev.neg c1 (Ev.neg c2 (Ev.bind ew ?_)))), fun _ => by omega, by omega, by omega, by omega, hq2⟩
        rw [w64 (x := hi - lo) (by omega) (by omega), w64 (x := hi - lo + 1) (by omega) (by omega), u64_id (x := hi - lo + 1) (by omega) (by omega)]
        refine Ev.neg (by omega) ?_
        simp only []
        rw [shr1_u64, w64 (x := Int.tmod (w / 2) (hi - lo + 1)) (by omega) (by omega), w64 (x := lo + Int.tmod (w / 2) (hi - lo + 1)) (by omega) (by omega)]
        exact Ev.eq rfl
/-- off lo hi: as near, now and then just outside, or an end of int64. -/
theorem off_ev {l : List Int} {p : Int} (h : Rd l p) (lo hi : Int) (h0 : -1099511627776 ≤ lo) (h1 : lo ≤ 1099511627776) (h2 : -1099511627776 ≤ hi) (h3 : hi ≤ 1099511627776) :
    ∃ v q, Ev (fun k => spec_l1Rd_off.f k l p lo hi) (l, q, v) ∧ -9223372036854775808 ≤ v ∧ v ≤ 9223372036854775807 ∧ Rd l q := by
  obtain ⟨o, q, e, hq⟩ := once_f h 24 (by omega) (by omega)
  unfold spec_l1Rd_off.f
  by_cases c : o = true
  · obtain ⟨v, q2, e2, hv0, hv1, hq2⟩ := below_f hq 4 (by omega) (by omega)
    refine ⟨rd [wrap64 (lo - 1), wrap64 (hi + 1), (-9223372036854775808), 9223372036854775807] v, q2, Ev.bindo e (Ev.pos c (Ev.bindo e2 (Ev.pos (by simp only []; omega) (Ev.pos (by simp only [List.length_cons, List.length_nil]; omega) (Ev.eq rfl))))), ?_, ?_, hq2⟩
    all_goals
      obtain rfl | rfl | rfl | rfl : v = 0 ∨ v = 1 ∨ v = 2 ∨ v = 3 := by omega
      · have := wrap64_range (lo - 1); simp [rd]; omega
      · have := wrap64_range (hi + 1); simp [rd]; omega
      · simp [rd]
      · simp [rd]
  · obtain ⟨v, q2, e2, _, _, hv0, hv1, hq2⟩ := near_ev hq lo hi (by omega) (by omega) (by omega) (by omega)
    exact ⟨v, q2, Ev.bindo e (Ev.neg c (Ev.bind e2 (Ev.eq rfl))), by omega, by omega, hq2⟩
end Go.Proofs.YtlljkankongifaaDoor.Abs
namespace Go.Proofs.YtlljkankongifaaDoor.Abs
open Go Go.RowKit
set_option linter.unusedVariables false
set_option linter.unusedSectionVars false
set_option linter.unusedSimpArgs false
theorem kinds_ev {l : List Int} {p : Int} (h : Rd l p) (most : Int) (h1 : 1 ≤ most) (h2 : most ≤ 100) : ∃ s q, Ev (fun k => spec_l1Rd_kinds.f k l p most) (l, q, s) ∧ (1 ≤ s.size ∧ s.size ≤ 100) ∧ Rd l q := by
  have lp : ∀ (d : Nat) (s : ByteArray) (p : Int), 1 ≤ s.size + d ∧ s.size + d ≤ 100 → Rd l p → ∃ s' q, Ev (fun k => spec_l1Rd_kinds.p8 k l p s (d : Int)) (l, q, s') ∧ (1 ≤ s'.size ∧ s'.size ≤ 100) ∧ Rd l q := by
    intro d
    induction d with
    | zero =>
      intro s p hs hp
      exact ⟨_, _, Ev.step (fun k => by rw [spec_l1Rd_kinds.p8]) (Ev.neg (by omega) (Ev.eq rfl)), by omega, hp⟩
    | succ d ih =>
      intro s p hs hp
      obtain ⟨v, q, e, hv0, hv1, hq⟩ := below_f hp 2 (by omega) (by omega)
      have hz : (rdOf ByteArray.empty [(⟨#[105]⟩ : ByteArray), (⟨#[114]⟩ : ByteArray)] v).size = 1 := by
        obtain rfl | rfl : v = 0 ∨ v = 1 := by omega
        · rfl
        · rfl
      obtain ⟨s', q2, e2, hs', hq2⟩ := ih (s ++ rdOf ByteArray.empty [(⟨#[105]⟩ : ByteArray), (⟨#[114]⟩ : ByteArray)] v) q (by rw [ByteArray.size_append, hz]; omega) hq
      refine ⟨s', q2, ?_, hs', hq2⟩
      refine Ev.step (fun k => by rw [spec_l1Rd_kinds.p8]) ?_
      refine Ev.pos (by omega) (Ev.bindo e ?_)
      rw [show wrap64 (((d + 1 : Nat) : Int) - 1) = (d : Int) from by rw [w64 (by omega) (by omega)]; omega]
      refine Ev.pos hv0 (Ev.pos (by simp only []; omega) ?_)
      exact Ev.pos (by simp only [hz]; omega) e2
  obtain ⟨v, q, e, hv0, hv1, hq⟩ := below_f h most (by omega) (by omega)
  obtain ⟨s, q2, e2, hs, hq2⟩ := lp (1 + v).toNat ⟨#[]⟩ q (by show 1 ≤ 0 + _ ∧ 0 + _ ≤ _; omega) hq
  refine ⟨s, q2, ?_, hs, hq2⟩
  unfold spec_l1Rd_kinds.f
  refine Ev.bindo e ?_
  simp only []
  rw [show wrap64 (1 + v) = ((1 + v).toNat : Int) from by rw [w64 (by omega) (by omega)]; omega]
  exact e2
theorem sizes_snoc {ts : List ByteArray} {s : ByteArray} {n : Nat} (h : ∀ x ∈ ts, 1 ≤ x.size ∧ x.size ≤ n) (hz : 1 ≤ s.size ∧ s.size ≤ n) : ∀ x ∈ ts ++ [s], 1 ≤ x.size ∧ x.size ≤ n := by
  intro x hx
  rcases List.mem_append.1 hx with hx | hx
  · exact h x hx
  · simp only [List.mem_singleton] at hx
    subst hx
    exact hz
theorem drawTypes1_ev {l : List Int} {p : Int} (h : Rd l p) : ∃ ts q, Ev (fun k => spec_l1Rd_types.f k l p) (l, q, ts) ∧ 1 ≤ ts.length ∧ ts.length ≤ 100 ∧ (∀ x ∈ ts, 1 ≤ x.size ∧ x.size ≤ 100) ∧ Rd l q := by
  have lp : ∀ (d : Nat) (ts : List ByteArray) (p : Int), 1 ≤ ts.length → ts.length + d ≤ 100 → (∀ x ∈ ts, 1 ≤ x.size ∧ x.size ≤ 100) → Rd l p → ∃ ts' q, Ev (fun k => spec_l1Rd_types.p8 k l p ts (d : Int)) (l, q, ts') ∧ 1 ≤ ts'.length ∧ ts'.length ≤ 100 ∧ (∀ x ∈ ts', 1 ≤ x.size ∧ x.size ≤ 100) ∧ Rd l q := by
    intro d
    induction d with
    | zero =>
      intro ts p h1 h2 hs hp
      exact ⟨_, _, Ev.step (fun k => by rw [spec_l1Rd_types.p8]) (Ev.neg (by omega) (Ev.eq rfl)), h1, by omega, hs, hp⟩
    | succ d ih =>
      intro ts p h1 h2 hs hp
      obtain ⟨b, q, e, hq⟩ := once_f hp 4 (by omega) (by omega)
      have e1 : wrap64 (((d + 1 : Nat) : Int) - 1) = (d : Int) := by rw [w64 (by omega) (by omega)]; omega
      cases b with
      | true =>
        obtain ⟨s, q2, e2, hz, hq2⟩ := kinds_ev hq 23 (by omega) (by omega)
        obtain ⟨ts', q3, e3, hr⟩ := ih (ts ++ [s]) q2 (by simp) (by simp; omega) (sizes_snoc hs hz) hq2
        refine ⟨ts', q3, ?_, hr⟩
        refine Ev.step (fun k => by rw [spec_l1Rd_types.p8]) ?_
        refine Ev.pos (by omega) (Ev.bindo e ?_)
        refine Ev.pos rfl (Ev.bind e2 ?_)
        refine Ev.pos (by omega) ?_
        rw [e1]
        exact e3
      | false =>
        obtain ⟨s, q2, e2, hz, hq2⟩ := kinds_ev hq 5 (by omega) (by omega)
        obtain ⟨ts', q3, e3, hr⟩ := ih (ts ++ [s]) q2 (by simp) (by simp; omega) (sizes_snoc hs hz) hq2
        refine ⟨ts', q3, ?_, hr⟩
        refine Ev.step (fun k => by rw [spec_l1Rd_types.p8]) ?_
        refine Ev.pos (by omega) (Ev.bindo e ?_)
        refine Ev.neg (by simp) (Ev.bind e2 ?_)
        refine Ev.pos (by omega) ?_
        rw [e1]
        exact e3
  obtain ⟨v, q, e, hv0, hv1, hq⟩ := below_f h 4 (by omega) (by omega)
  obtain ⟨n, q2, e2, hn0, hn1, hq2⟩ := below_f hq 3 (by omega) (by omega)
  have hz : 1 ≤ (rdOf ByteArray.empty [(⟨#[105, 114]⟩ : ByteArray), (⟨#[114, 114, 105]⟩ : ByteArray), (⟨#[114, 105]⟩ : ByteArray), (⟨#[105, 114, 114]⟩ : ByteArray)] v).size ∧ (rdOf ByteArray.empty [(⟨#[105, 114]⟩ : ByteArray), (⟨#[114, 114, 105]⟩ : ByteArray), (⟨#[114, 105]⟩ : ByteArray), (⟨#[105, 114, 114]⟩ : ByteArray)] v).size ≤ 100 := by
    obtain rfl | rfl | rfl | rfl : v = 0 ∨ v = 1 ∨ v = 2 ∨ v = 3 := by omega
    · show 1 ≤ 2 ∧ 2 ≤ 100; omega
    · show 1 ≤ 3 ∧ 3 ≤ 100; omega
    · show 1 ≤ 2 ∧ 2 ≤ 100; omega
    · show 1 ≤ 3 ∧ 3 ≤ 100; omega
  obtain ⟨ts, q3, e3, hr⟩ := lp n.toNat [rdOf ByteArray.empty [(⟨#[105, 114]⟩ : ByteArray), (⟨#[114, 114, 105]⟩ : ByteArray), (⟨#[114, 105]⟩ : ByteArray), (⟨#[105, 114, 114]⟩ : ByteArray)] v] q2 (by simp) (by simp only [List.length_cons, List.length_nil]; omega) (fun x hx => by simp only [List.mem_singleton] at hx; subst hx; exact hz) hq2
  refine ⟨ts, q3, ?_, hr⟩
  unfold spec_l1Rd_types.f
  refine Ev.bindo e (Ev.pos hv0 (Ev.pos (by simp only []; omega) (Ev.bindo e2 ?_)))
  simp only []
  rw [show n = ((n.toNat : Nat) : Int) from by omega]
  exact e3
theorem drawTypes_ev {l : List Int} {p : Int} (h : Rd l p) : ∃ ts q, Ev (fun k => spec_l1Rd_types.f k l p) (l, q, ts) ∧ 1 ≤ ts.length ∧ ts.length ≤ 100 ∧ (∀ x ∈ ts, x.size ≤ 100) ∧ Rd l q := by
  obtain ⟨ts, q, e, h1, h2, h3, h4⟩ := drawTypes1_ev h
  exact ⟨ts, q, e, h1, h2, fun x hx => (h3 x hx).2, h4⟩
end Go.Proofs.YtlljkankongifaaDoor.Abs
namespace Go.Proofs.YtlljkankongifaaDoor.Abs
open Go Go.RowKit
set_option linter.unusedVariables false
set_option linter.unusedSectionVars false
set_option linter.unusedSimpArgs false

/-- From the end down. -/
theorem down {P : Nat → Prop} {n : Nat} (h0 : P n) (hs : ∀ i, i < n → P (i + 1) → P i) : ∀ i, i ≤ n → P i := by
  have key : ∀ d i, n - i = d → i ≤ n → P i := by
    intro d
    induction d with
    | zero => intro i hd hi; obtain rfl : i = n := by omega
              exact h0
    | succ d ih => intro i hd hi; exact hs i (by omega) (ih (i + 1) (by omega) (by omega))
  exact fun i hi => key _ i rfl hi
theorem w64s {i : Nat} (h : i ≤ 4611686018427387904) : wrap64 ((i : Int) + 1) = ((i + 1 : Nat) : Int) := by
  rw [w64 (by omega) (by omega)]; omega
theorem rdg {α : Type} {d : α} {l : List α} {i : Nat} (h : i < l.length) : rdOf d l (i : Int) = l[i] := by
  simp [rdOf, List.getD_eq_getElem?_getD, List.getElem?_eq_getElem h]

/-- A list filled place by place. -/
theorem fill_ev {α : Type} {l : List α} {g : Nat → List α → Int → Option (List α)} (z : α)
    (hs : ∀ i (h : i < l.length) (out : List α), out.length = l.length → ∀ r, Ev (fun k => g k (out.set i l[i]) ((i + 1 : Nat) : Int)) r → Ev (fun k => g k out (i : Int)) r)
    (hf : ∀ out : List α, out.length = l.length → Ev (fun k => g k out (l.length : Int)) out) : Ev (fun k => g k (List.replicate l.length z) 0) l := by
  have key : ∀ i, i ≤ l.length → ∀ out : List α, out.length = l.length → (∀ j : Nat, j < i → out[j]? = l[j]?) → Ev (fun k => g k out (i : Int)) l := by
    refine down ?_ ?_
    · intro out ho ht
      have : out = l := List.ext_getElem? fun j => by
        by_cases h : j < l.length
        · exact ht j h
        · rw [List.getElem?_eq_none (by omega), List.getElem?_eq_none (by omega)]
      subst this
      exact hf out ho
    · intro i hi ih out ho ht
      refine hs i hi out ho l (ih _ (by rw [List.length_set]; exact ho) fun j hj => ?_)
      by_cases e : j = i
      · subst e; rw [List.getElem?_set_self (by omega), List.getElem?_eq_getElem hi]
      · rw [List.getElem?_set_ne (fun h => e h.symm)]; exact ht j (by omega)
  exact key 0 (Nat.zero_le _) _ (by simp) (fun j hj => by omega)

/-- A sum of non-negative parts, for the sizes of arguments. -/
theorem sz_loop {α : Type} {l : List α} {ok : α → Prop} {g : Nat → Int → Int → Option Int} (hl : l.length ≤ 4611686018427387904)
    (hs : ∀ i (h : i < l.length) (left : Int), 0 ≤ left → left ≤ 1048576 → (∃ r, r < 0 ∧ Ev (fun k => g k left (i : Int)) r) ∨ ∃ left', 0 ≤ left' ∧ left' ≤ left ∧ ok l[i] ∧ ∀ r, Ev (fun k => g k left' ((i + 1 : Nat) : Int)) r → Ev (fun k => g k left (i : Int)) r)
    (hf : ∀ left : Int, Ev (fun k => g k left (l.length : Int)) left) : ∀ left : Int, 0 ≤ left → left ≤ 1048576 → ∃ r, Ev (fun k => g k left 0) r ∧ (0 ≤ r → r ≤ left ∧ ∀ x ∈ l, ok x) := by
  have key : ∀ i, i ≤ l.length → ∀ left : Int, 0 ≤ left → left ≤ 1048576 → ∃ r, Ev (fun k => g k left (i : Int)) r ∧ (0 ≤ r → r ≤ left ∧ ∀ x ∈ l.drop i, ok x) := by
    refine down ?_ ?_
    · intro left h0 h1
      exact ⟨left, hf left, fun _ => ⟨Int.le_refl _, by simp⟩⟩
    · intro i hi ih left h0 h1
      rcases hs i hi left h0 h1 with ⟨r, hr, he⟩ | ⟨left', a0, a1, ho, hst⟩
      · exact ⟨r, he, fun h => by omega⟩
      · obtain ⟨r, he, hr⟩ := ih left' a0 (by omega)
        refine ⟨r, hst r he, fun h => ⟨by have := (hr h).1; omega, ?_⟩⟩
        rw [List.drop_eq_getElem_cons hi]
        intro x hx
        rcases List.mem_cons.1 hx with rfl | hx
        · exact ho
        · exact (hr h).2 x hx
  intro left h0 h1
  obtain ⟨r, he, hr⟩ := key 0 (Nat.zero_le _) left h0 h1
  exact ⟨r, he, by simpa using hr⟩

/-- The references among an object's values, from one on. -/
def refsB (p : Int → Bool) (t : ByteArray) : Nat → List Int → Bool
  | _, [] => true
  | i, v :: l => if bt t (i : Int) = 114 then p v && refsB p t (i + 1) l else refsB p t (i + 1) l
/-- isObject's loop, at any condition. -/
theorem refs_ev {types : List ByteArray} {vals : List Int} {tp : Int} {p : Int → Bool} {t : Nat → Int → Option Bool} {g : Nat → Int → Option Bool} (h0 : 0 ≤ tp) (h1 : tp < types.length) (hv : vals.length = (rdOf ByteArray.empty types tp).size) (hvl : vals.length ≤ 1099511627776)
    (hg : ∀ k (i : Int), g (k + 1) i = (if i < (vals.length : Int) then (if 0 ≤ i then (if i < (vals.length : Int) then (if 0 ≤ tp then (if tp < (types.length : Int) then (if 0 ≤ i then (if i < ((rdOf ByteArray.empty types tp).size : Int) then (if (byteAt (rdOf ByteArray.empty types tp) i) = 114 then ((t k (rd vals i)).bind fun t3 => (if t3 = true then (g k (wrap64 (i + 1))) else (some false))) else (g k (wrap64 (i + 1)))) else none) else none) else none) else none) else none) else none) else (some true)))
    (ht : ∀ x ∈ vals, Ev (fun k => t k x) (p x)) : Ev (fun k => g k 0) (refsB p (rdOf ByteArray.empty types tp) 0 vals) := by
  have key : ∀ i, i ≤ vals.length → Ev (fun k => g k (i : Int)) (refsB p (rdOf ByteArray.empty types tp) i (vals.drop i)) := by
    refine down ?_ ?_
    · rw [List.drop_eq_nil_of_le (Nat.le_refl _)]
      refine Ev.step (fun k => hg k _) ?_
      exact Ev.neg (by omega) (Ev.eq rfl)
    · intro i hi ih
      refine Ev.step (fun k => hg k _) ?_
      rw [rd_get hi, w64s (by omega), List.drop_eq_getElem_cons hi, refsB]
      refine Ev.pos (by omega) (Ev.pos (by omega) (Ev.pos (by omega) (Ev.pos h0 (Ev.pos h1 (Ev.pos (by omega) (Ev.pos (by omega) ?_))))))
      by_cases c : bt (rdOf ByteArray.empty types tp) (i : Int) = 114
      · rw [if_pos c]
        refine Ev.pos c (Ev.bind (ht _ (List.getElem_mem hi)) (Ev.cases (fun c2 => ?_) (fun c2 => ?_)))
        · rw [c2, Bool.true_and]; exact ih
        · rw [Bool.eq_false_iff.2 c2, Bool.false_and]; exact Ev.eq rfl
      · rw [if_neg c]
        exact Ev.neg c ih
  have h := key 0 (Nat.zero_le _)
  rw [List.drop_zero] at h
  exact h
/-- The same answer from every place on. -/
theorem each_ev {β : Type} {n : Nat} {g : Nat → Int → Option β} {r : β} (hs : ∀ i, i < n → Ev (fun k => g k ((i + 1 : Nat) : Int)) r → Ev (fun k => g k (i : Int)) r) (hf : Ev (fun k => g k (n : Int)) r) : Ev (fun k => g k 0) r :=
  down (P := fun i => Ev (fun k => g k (i : Int)) r) hf hs 0 (Nat.zero_le _)
/-- A condition asked of all elements in order. -/
theorem all_ev {α : Type} {l : List α} {p : α → Bool} {g : Nat → Int → Option Bool}
    (hs : ∀ i (h : i < l.length), (p l[i] = true → ∀ r, Ev (fun k => g k ((i + 1 : Nat) : Int)) r → Ev (fun k => g k (i : Int)) r) ∧ (p l[i] = false → Ev (fun k => g k (i : Int)) false))
    (b : Bool) (hf : Ev (fun k => g k (l.length : Int)) b) : Ev (fun k => g k 0) (l.all p && b) := by
  have key : ∀ i, i ≤ l.length → Ev (fun k => g k (i : Int)) ((l.drop i).all p && b) := by
    refine down ?_ ?_
    · rw [List.drop_eq_nil_of_le (Nat.le_refl _)]
      simpa using hf
    · intro i hi ih
      rw [List.drop_eq_getElem_cons hi, List.all_cons]
      cases c : p l[i] with
      | true => rw [Bool.true_and]; exact (hs i hi).1 c _ ih
      | false => rw [Bool.false_and, Bool.false_and]; exact (hs i hi).2 c
  have h := key 0 (Nat.zero_le _)
  rw [List.drop_zero] at h
  exact h
end Go.Proofs.YtlljkankongifaaDoor.Abs
namespace Go.Proofs.YtlljkankongifaaDoor.Abs.Pu
open Go Go.RowKit
set_option linter.unusedVariables false
set_option linter.unusedSectionVars false
set_option linter.unusedSimpArgs false
theorem one4 (a b c d : UInt8) {v : Int} (h0 : 0 ≤ v) (h1 : v < 4) : (rdOf ByteArray.empty [(⟨#[a]⟩ : ByteArray), (⟨#[b]⟩ : ByteArray), (⟨#[c]⟩ : ByteArray), (⟨#[d]⟩ : ByteArray)] v).size = 1 := by
  obtain rfl | rfl | rfl | rfl : v = 0 ∨ v = 1 ∨ v = 2 ∨ v = 3 := by omega
  all_goals rfl
theorem hurt_f {l : List Int} {p : Int} (h : Rd l p) (s : ByteArray) (hs : s.size ≤ 60000) : ∃ s' q, spec_l1Rd_hurt.f l p s = some (l, q, s') ∧ s'.size ≤ s.size + 1 ∧ Rd l q := by
  obtain ⟨a, q, ea, ha0, ha1, hq⟩ := below_f h 6 (by omega) (by omega)
  unfold spec_l1Rd_hurt.f
  rw [ea, Option.bind_some]
  simp only []
  by_cases c1 : a = 1
  · obtain ⟨b, q2, eb, hb0, hb1, hq2⟩ := below_f hq ((s.size : Int) + 1) (by omega) (by omega)
    rw [if_pos c1, w64 (x := (s.size : Int) + 1) (by omega) (by omega), eb, Option.bind_some]
    simp only []
    rw [if_pos hb0, if_pos (by omega)]
    exact ⟨_, _, rfl, by rw [ByteArray.size_extract]; omega, hq2⟩
  rw [if_neg c1]
  by_cases c2 : a = 2
  · rw [if_pos c2]
    by_cases c3 : (s.size : Int) > 0
    · obtain ⟨b, q2, eb, hb0, hb1, hq2⟩ := below_f hq (s.size : Int) (by omega) (by omega)
      obtain ⟨d, q3, ed, hd0, hd1, hq3⟩ := below_f hq2 4 (by omega) (by omega)
      have ho := one4 0 55 255 32 hd0 hd1
      rw [if_pos c3, eb, Option.bind_some]
      simp only []
      rw [if_pos hb0, if_pos (by omega), ed, Option.bind_some]
      simp only []
      rw [if_pos hd0, if_pos hd1, w64 (x := b + 1) (by omega) (by omega), if_pos (by rw [ByteArray.size_extract, ho]; omega), if_pos (by omega), if_pos (by omega), if_pos (by rw [ByteArray.size_append, ByteArray.size_extract, ByteArray.size_extract, ho]; omega)]
      exact ⟨_, _, rfl, by rw [ByteArray.size_append, ByteArray.size_append, ByteArray.size_extract, ByteArray.size_extract, ho]; omega, hq3⟩
    · rw [if_neg c3]
      exact ⟨_, _, rfl, by omega, hq⟩
  rw [if_neg c2]
  by_cases c3 : a = 3
  · obtain ⟨d, q3, ed, hd0, hd1, hq3⟩ := below_f hq 4 (by omega) (by omega)
    have ho := one4 0 49 10 32 hd0 hd1
    rw [if_pos c3, ed, Option.bind_some]
    simp only []
    rw [if_pos hd0, if_pos hd1, if_pos (by rw [ho]; omega)]
    exact ⟨_, _, rfl, by rw [ByteArray.size_append, ho]; omega, hq3⟩
  · rw [if_neg c3]
    exact ⟨_, _, rfl, by omega, hq⟩
end Go.Proofs.YtlljkankongifaaDoor.Abs.Pu
namespace Go.Proofs.YtlljkankongifaaDoor.Abs.Pu
open Go Go.RowKit
set_option linter.unusedVariables false
set_option linter.unusedSectionVars false
set_option linter.unusedSimpArgs false
theorem config_ev {l : List Int} {p : Int} (h : Rd l p) : ∃ (a b y : Int) (ts : List ByteArray) (q : Int), Ev (fun k => spec_l1Rd_config.f k l p) (l, q, a, b, y, ts) ∧ 1 ≤ ts.length ∧ ts.length ≤ 100 ∧ (∀ x ∈ ts, x.size ≤ 100) ∧ Rd l q := by
  obtain ⟨v1, q1, e1, a1, b1, h1⟩ := below_f h 10 (by omega) (by omega)
  obtain ⟨v2, q2, e2, a2, b2, h2⟩ := below_f h1 40 (by omega) (by omega)
  obtain ⟨ts, q3, e3, t1, t2, t3, h3⟩ := drawTypes_ev h2
  obtain ⟨v4, q4, e4, a4, b4, h4⟩ := below_f h3 14 (by omega) (by omega)
  obtain ⟨o, q5, e5, h5⟩ := once_f h4 3 (by omega) (by omega)
  obtain ⟨v6, q6, e6, a6, b6, h6⟩ := below_f h5 200 (by omega) (by omega)
  unfold spec_l1Rd_config.f
  cases o with
  | true =>
    exact ⟨_, _, _, ts, q6, Ev.bindo e1 (Ev.bindo e2 (Ev.bind e3 (Ev.bindo e4 (Ev.bindo e5 (Ev.pos rfl (Ev.bindo e6 (Ev.step (fun k => by rw [spec_l1Rd_config.p16]) (Ev.eq rfl)))))))), t1, t2, t3, h6⟩
  | false =>
    exact ⟨_, _, _, ts, q5, Ev.bindo e1 (Ev.bindo e2 (Ev.bind e3 (Ev.bindo e4 (Ev.bindo e5 (Ev.neg (by simp) (Ev.step (fun k => by rw [spec_l1Rd_config.p16]) (Ev.eq rfl))))))), t1, t2, t3, h5⟩
theorem lines_ev {l : List Int} {p : Int} (h : Rd l p) : ∃ ls q, Ev (fun k => spec_l1Rd_lines.f k l p) (l, q, ls) ∧ ls.length ≤ 128 ∧ (∀ x ∈ ls, 0 ≤ x ∧ x ≤ 127) ∧ Rd l q := by
  obtain ⟨a, q, ea, ha0, ha1, hq⟩ := below_f h 12 (by omega) (by omega)
  obtain ⟨b, q2, eb, hb0, hb1, hq2⟩ := below_f hq (1 + a) (by omega) (by omega)
  have lp : ∀ (d : Nat) (ls : List Int) (n : Int) (p : Int), n + d = 200 → 0 ≤ n → (ls.length : Int) ≤ n → ls.length ≤ 128 → (∀ x ∈ ls, 0 ≤ x ∧ x ≤ 127) → Rd l p → ∃ ls' q, Ev (fun k => spec_l1Rd_lines.p10 k l p ls (1 + a) n) (l, q, ls') ∧ ls'.length ≤ 128 ∧ (∀ x ∈ ls', 0 ≤ x ∧ x ≤ 127) ∧ Rd l q := by
    intro d
    induction d using Nat.strongRecOn with
    | ind d ih =>
      intro ls n p hd h0 hl hl2 hx hp
      by_cases c : n < 128
      · obtain ⟨v, q, ev, hv0, hv1, hq⟩ := below_f hp (1 + a) (by omega) (by omega)
        obtain ⟨ls', q2, e2, hr⟩ := ih (200 - (n + 1 + v)).toNat (by omega) (ls ++ [n]) (n + 1 + v) q (by omega) (by omega) (by rw [List.length_append, List.length_singleton]; omega) (by rw [List.length_append, List.length_singleton]; omega) (fun x hx' => by
          rcases List.mem_append.1 hx' with hx' | hx'
          · exact hx x hx'
          · simp only [List.mem_singleton] at hx'
            omega) hq
        refine ⟨ls', q2, Ev.step (fun k => by rw [spec_l1Rd_lines.p10]) ?_, hr⟩
        rw [w64 (x := n + 1) (by omega) (by omega)]
        refine Ev.pos c (Ev.pos (by omega) (Ev.bindo ev ?_))
        simp only []
        rw [w64 (x := n + 1 + v) (by omega) (by omega)]
        exact e2
      · refine ⟨ls, p, Ev.step (fun k => by rw [spec_l1Rd_lines.p10]) ?_, hl2, hx, hp⟩
        exact Ev.neg c (Ev.eq rfl)
  obtain ⟨ls', q3, e3, hr⟩ := lp (200 - b).toNat [] b q2 (by omega) hb0 (by simp only [List.length_nil]; omega) (by simp) (fun x h => by cases h) hq2
  refine ⟨ls', q3, ?_, hr⟩
  unfold spec_l1Rd_lines.f
  refine Ev.bindo ea ?_
  simp only []
  rw [w64 (x := 1 + a) (by omega) (by omega)]
  exact Ev.bindo eb e3
theorem l6MapOf_ev (ls : List Int) (hl : ls.length ≤ 128) (hx : ∀ x ∈ ls, 0 ≤ x ∧ x ≤ 127) : ∃ s, Ev (fun k => spec_l6MapOf.f k ls) s ∧ s.size = 64 := by
  have key : ∀ i, i ≤ ls.length → ∀ xs : List Int, xs.length = 64 → ∃ s, Ev (fun k => spec_l6MapOf.p8 k ls xs (i : Int)) s ∧ s.size = 64 := by
    refine down ?_ ?_
    · intro xs h
      refine ⟨strOf xs, Ev.step (fun k => by rw [spec_l6MapOf.p8]) ?_, (strOfNums_size xs).trans h⟩
      exact Ev.neg (by omega) (Ev.eq rfl)
    · intro i hi ih xs h
      have hv := hx _ (List.getElem_mem hi)
      obtain ⟨n, hn⟩ := Int.eq_ofNat_of_zero_le hv.1
      have hn' : ls[i] = (n : Int) := hn
      have hq : wrap64 (Int.tdiv (n : Int) 8) = ((n / 8 : Nat) : Int) := by rw [Int.tdiv_eq_ediv_of_nonneg (by omega), w64 (by omega) (by omega)]; omega
      have hm : Int.tmod (n : Int) 8 = ((n % 8 : Nat) : Int) := by rw [Int.tmod_eq_emod_of_nonneg (by omega)]; omega
      have hu : IntKind.u64.wrap ((n % 8 : Nat) : Int) = ((n % 8 : Nat) : Int) := by simp [IntKind.wrap, IntKind.bits, IntKind.signed]; omega
      obtain ⟨s, e, hs⟩ := ih (xs.set (n / 8) (orA .u8 (rd xs ((n / 8 : Nat) : Int)) (shlA .u8 1 ((n % 8 : Nat) : Int)))) (by rw [List.length_set]; exact h)
      refine ⟨s, Ev.step (fun k => by rw [spec_l6MapOf.p8]) ?_, hs⟩
      rw [rd_get hi, hn', hq, hm, hu, Int.toNat_natCast, w64s (i := i) (by omega)]
      exact Ev.pos (by omega) (Ev.pos (by omega) (Ev.pos (by omega) (Ev.pos (by omega) (Ev.pos (by omega) (Ev.pos (by omega) (Ev.pos (by omega) (Ev.neg (by omega) (Ev.pos (by omega) (Ev.pos (by omega) e)))))))))
  unfold spec_l6MapOf.f
  exact key 0 (Nat.zero_le _) _ (by simp)
theorem aMap_ev {l : List Int} {p : Int} (h : Rd l p) : ∃ m q, Ev (fun k => spec_l1Rd_aMap.f k l p) (l, q, m) ∧ m.size ≤ 65 ∧ Rd l q := by
  obtain ⟨ls, q, e, h1, h2, hq⟩ := lines_ev h
  obtain ⟨s, e2, hs⟩ := l6MapOf_ev ls h1 h2
  obtain ⟨o, q3, e3, hq3⟩ := once_f hq 20 (by omega) (by omega)
  obtain ⟨s', q4, e4, hs4, hq4⟩ := hurt_f hq3 s (by omega)
  unfold spec_l1Rd_aMap.f
  cases o with
  | true => exact ⟨s', q4, Ev.bind e (Ev.bind e2 (Ev.bindo e3 (Ev.pos rfl (Ev.bindo e4 (Ev.eq rfl))))), by omega, hq4⟩
  | false => exact ⟨s, q3, Ev.bind e (Ev.bind e2 (Ev.bindo e3 (Ev.neg (by simp) (Ev.eq rfl)))), by omega, hq3⟩
end Go.Proofs.YtlljkankongifaaDoor.Abs.Pu
namespace Go.Proofs.YtlljkankongifaaDoor.Abs.Pu
open Go Go.RowKit
set_option linter.unusedVariables false
set_option linter.unusedSectionVars false
set_option linter.unusedSimpArgs false
theorem repeat_zero (n : Nat) : Lib.repeatL [0] n = List.replicate n 0 := by
  induction n with
  | zero => rfl
  | succ n ih => rw [Lib.repeatL, ih]; rfl
def zerosB (n : Nat) : ByteArray := strOfNums (List.replicate n 0)
theorem zerosB_size (n : Nat) : (zerosB n).size = n := by rw [zerosB, strOfNums_size, List.length_replicate]
theorem bytesOf_zerosB (n : Nat) : bytesOf (zerosB n) = List.replicate n 0 := bytesOf_strOfNums (isBytes_replicate n)
def mapOk (s : ByteArray) : Prop := s.size = 64 ∧ s.extract 16 s.size = zerosB 48
instance (s : ByteArray) : Decidable (mapOk s) := by unfold mapOk; infer_instance
/-- Is line n taken. -/
def tkn (s : ByteArray) (n : Int) : Bool := bitL (bytesOf s) n.toNat
theorem and_one {x : Int} (h0 : 0 ≤ x) (h1 : x ≤ 255) : Go.bits .and .u8 x 1 = x % 2 := by
  have h := Go.bits_mask .u8 8 (by decide) Go.wraps_u8 1 (by decide) x h0 (by omega)
  simpa using h
theorem div_range {x : Int} (h0 : 0 ≤ x) (h1 : x ≤ 255) (r : Nat) : 0 ≤ x / 2 ^ r ∧ x / 2 ^ r ≤ 255 := by
  have hp : (0 : Int) < 2 ^ r := Int.pow_pos (by decide)
  exact ⟨Int.ediv_nonneg h0 (by omega), Int.le_trans (Int.ediv_le_self _ h0) h1⟩
/-! ### lines -/
/-- The taken ones of the lines i, .., i + d - 1. -/
def linesFrom (t : Int → Bool) (i : Int) : Nat → List Int
  | 0 => []
  | d + 1 => if t i then i :: linesFrom t (i + 1) d else linesFrom t (i + 1) d
theorem linesFrom_length (t : Int → Bool) : ∀ (d : Nat) (i : Int), (linesFrom t i d).length ≤ d
  | 0, i => by simp [linesFrom]
  | d + 1, i => by
    have h := linesFrom_length t d (i + 1)
    simp only [linesFrom]
    split
    · simp; omega
    · omega
def linesOf (s : ByteArray) : List Int := if mapOk s then linesFrom (tkn s) 0 128 else []
def turn1 (xs : List Int) (i : Nat) : List Int := xs.set (i / 8) (Go.bits .xor .u8 (xs.getD (i / 8) 0) (2 ^ (i % 8) % 256))
def turnL (xs : List Int) (a : Nat) : Nat → List Int
  | 0 => xs
  | n + 1 => turn1 (turnL xs a n) (a + n)
theorem turnL_length (xs : List Int) (a : Nat) : ∀ n, (turnL xs a n).length = xs.length
  | 0 => rfl
  | n + 1 => by simp [turnL, turn1, turnL_length xs a n]
theorem turnL_next (xs : List Int) (a i : Nat) (h : a ≤ i) : turnL xs a (i + 1 - a) = turn1 (turnL xs a (i - a)) i := by
  rw [show i + 1 - a = (i - a) + 1 from by omega, turnL, show a + (i - a) = i from by omega]
def change1 (xs : List Int) (i : Nat) (t : Bool) : List Int :=
  if t = true then (xs.set (i / 8) (Go.bits .andNot .u8 (xs.getD (i / 8) 0) (2 ^ (i % 8) % 256))).set (i / 8) (Go.bits .or .u8 (Go.bits .andNot .u8 (xs.getD (i / 8) 0) (2 ^ (i % 8) % 256)) (2 ^ (i % 8) % 256))
  else xs.set (i / 8) (Go.bits .andNot .u8 (xs.getD (i / 8) 0) (2 ^ (i % 8) % 256))
def changeL (xs : List Int) (a : Nat) (t : Bool) : Nat → List Int
  | 0 => xs
  | n + 1 => change1 (changeL xs a t n) (a + n) t
theorem changeL_length (xs : List Int) (a : Nat) (t : Bool) : ∀ n, (changeL xs a t n).length = xs.length
  | 0 => rfl
  | n + 1 => by
    have ih := changeL_length xs a t n
    simp only [changeL, change1]
    split <;> simp [ih]
theorem changeL_next (xs : List Int) (a : Nat) (t : Bool) (i : Nat) (h : a ≤ i) : changeL xs a t (i + 1 - a) = change1 (changeL xs a t (i - a)) i t := by
  rw [show i + 1 - a = (i - a) + 1 from by omega, changeL, show a + (i - a) = i from by omega]
/-- What turning a bit changes. -/
theorem turn1_bit {xs : List Int} (hx : isBytes xs) {i : Nat} (hi : i / 8 < xs.length) (j : Nat) : bitL (turn1 xs i) j = (bitL xs j != decide (j = i)) := by
  unfold turn1
  have hb := isBytes_getD hx (i / 8)
  have h := (byte_xor hb.1 hb.2 (show i % 8 < 8 by omega)).2 (j % 8) (by omega)
  rw [bitL_set hi]
  split
  · rename_i e
    rw [h]
    unfold bitL
    rw [e]
    congr 1
    exact decide_eq_decide.2 (by omega)
  · rename_i e
    rw [show decide (j = i) = false from decide_eq_false (fun q => e (by rw [q]))]
    simp
theorem turn1_isBytes {xs : List Int} (hx : isBytes xs) (i : Nat) : isBytes (turn1 xs i) := by
  have hb := isBytes_getD hx (i / 8)
  have h := (byte_xor hb.1 hb.2 (show i % 8 < 8 by omega)).1
  exact isBytes_set hx _ h.1 h.2
theorem turn1_length (xs : List Int) (i : Nat) : (turn1 xs i).length = xs.length := by simp [turn1]
theorem clear1_bit {xs : List Int} (hx : isBytes xs) {i : Nat} (hi : i / 8 < xs.length) (j : Nat) : bitL (change1 xs i false) j = (bitL xs j && !decide (j = i)) := by
  unfold change1
  rw [if_neg (by simp)]
  have hb := isBytes_getD hx (i / 8)
  have h := (byte_clear hb.1 hb.2 (show i % 8 < 8 by omega)).2 (j % 8) (by omega)
  rw [bitL_set hi]
  split
  · rename_i e
    rw [h]
    unfold bitL
    rw [e]
    congr 2
    exact decide_eq_decide.2 (by omega)
  · rename_i e
    rw [show decide (j = i) = false from decide_eq_false (fun q => e (by rw [q]))]
    simp
theorem set1_bit {xs : List Int} (hx : isBytes xs) {i : Nat} (hi : i / 8 < xs.length) (j : Nat) : bitL (change1 xs i true) j = (bitL xs j || decide (j = i)) := by
  unfold change1
  rw [if_pos rfl]
  have hb := isBytes_getD hx (i / 8)
  have hc := byte_clear hb.1 hb.2 (show i % 8 < 8 by omega)
  have hs := byte_set hc.1.1 hc.1.2 (show i % 8 < 8 by omega)
  rw [bitL_set (by simpa using hi)]
  split
  · rename_i e
    rw [hs.2 _ (by omega), hc.2 _ (by omega)]
    unfold bitL
    rw [e]
    have : decide (j % 8 = i % 8) = decide (j = i) := decide_eq_decide.2 (by omega)
    rw [this]
    cases bitv (xs.getD (i / 8) 0) (j % 8) <;> cases decide (j = i) <;> rfl
  · rename_i e
    rw [bitL_set hi, if_neg e, show decide (j = i) = false from decide_eq_false (fun q => e (by rw [q]))]
    simp
theorem change1_isBytes {xs : List Int} (hx : isBytes xs) (i : Nat) (t : Bool) : isBytes (change1 xs i t) := by
  have hb := isBytes_getD hx (i / 8)
  have hc := byte_clear hb.1 hb.2 (show i % 8 < 8 by omega)
  have hs := byte_set hc.1.1 hc.1.2 (show i % 8 < 8 by omega)
  unfold change1
  split
  · exact isBytes_set (isBytes_set hx _ hc.1.1 hc.1.2) _ hs.1.1 hs.1.2
  · exact isBytes_set hx _ hc.1.1 hc.1.2
theorem change1_length (xs : List Int) (i : Nat) (t : Bool) : (change1 xs i t).length = xs.length := by
  unfold change1
  split <;> simp
theorem turnL_isBytes {xs : List Int} (hx : isBytes xs) (a : Nat) : ∀ n, isBytes (turnL xs a n)
  | 0 => hx
  | n + 1 => turn1_isBytes (turnL_isBytes hx a n) _
theorem changeL_isBytes {xs : List Int} (hx : isBytes xs) (a : Nat) (t : Bool) : ∀ n, isBytes (changeL xs a t n)
  | 0 => hx
  | n + 1 => change1_isBytes (changeL_isBytes hx a t n) _ _
/-- The bits behind a change. -/
theorem changeL_bit {xs : List Int} (hx : isBytes xs) (a : Nat) (t : Bool) : ∀ (n : Nat), a + n ≤ 8 * xs.length → ∀ j, bitL (changeL xs a t n) j = if a ≤ j ∧ j < a + n then t else bitL xs j
  | 0, h, j => by rw [if_neg (by omega)]; rfl
  | n + 1, h, j => by
    have ih := changeL_bit hx a t n (by omega) j
    have hi : (a + n) / 8 < (changeL xs a t n).length := by rw [changeL_length]; omega
    simp only [changeL]
    cases t
    · rw [clear1_bit (changeL_isBytes hx a false n) hi, ih]
      by_cases e : j = a + n
      · subst e; simp
      · rw [show decide (j = a + n) = false from decide_eq_false e]
        by_cases e2 : a ≤ j ∧ j < a + n
        · rw [if_pos e2, if_pos (by omega)]; rfl
        · rw [if_neg e2, if_neg (by omega)]; simp
    · rw [set1_bit (changeL_isBytes hx a true n) hi, ih]
      by_cases e : j = a + n
      · subst e; simp
      · rw [show decide (j = a + n) = false from decide_eq_false e]
        by_cases e2 : a ≤ j ∧ j < a + n
        · rw [if_pos e2, if_pos (by omega)]; rfl
        · rw [if_neg e2, if_neg (by omega)]; simp
theorem turnL_bit {xs : List Int} (hx : isBytes xs) (a : Nat) : ∀ (n : Nat), a + n ≤ 8 * xs.length → ∀ j, bitL (turnL xs a n) j = if a ≤ j ∧ j < a + n then !bitL xs j else bitL xs j
  | 0, h, j => by rw [if_neg (by omega)]; rfl
  | n + 1, h, j => by
    have ih := turnL_bit hx a n (by omega) j
    have hi : (a + n) / 8 < (turnL xs a n).length := by rw [turnL_length]; omega
    simp only [turnL]
    rw [turn1_bit (turnL_isBytes hx a n) hi, ih]
    by_cases e : j = a + n
    · subst e; simp
    · rw [show decide (j = a + n) = false from decide_eq_false e]
      by_cases e2 : a ≤ j ∧ j < a + n
      · rw [if_pos e2, if_pos (by omega)]; simp
      · rw [if_neg e2, if_neg (by omega)]; simp
/-- Where the bits were the other way, turning them is setting (or clearing) them. -/
theorem turn_change {xs : List Int} (hx : isBytes xs) (a n : Nat) (t : Bool) (h : a + n ≤ 8 * xs.length) (hb : ∀ j, a ≤ j → j < a + n → bitL xs j = !t) : turnL xs a n = changeL xs a t n := by
  refine bytes_ext (turnL_isBytes hx a n) (changeL_isBytes hx a t n) (by rw [turnL_length, changeL_length]) (fun j hj => ?_)
  rw [turnL_bit hx a n h, changeL_bit hx a t n h]
  split
  · rename_i c
    rw [hb j c.1 c.2]; simp
  · rfl
/-- All of n lines from a on are taken (t), or all are free. -/
def allAre (s : ByteArray) (t : Bool) (a n : Int) : Prop := ∀ j, a ≤ j → j < a + n → tkn s j = t
theorem allAre_iff (s : ByteArray) (t : Bool) (a n : Nat) : allAre s t a n ↔ ∀ j : Nat, a ≤ j → j < a + n → bitL (bytesOf s) j = t :=
  ⟨fun h j h0 h1 => by have := h (j : Int) (by omega) (by omega); simpa [tkn] using this, fun h j h0 h1 => by
    have := h j.toNat (by omega) (by omega)
    exact this⟩
instance allAre_dec (s : ByteArray) (t : Bool) (a n : Nat) : Decidable (∀ j : Nat, a ≤ j → j < a + n → bitL (bytesOf s) j = t) :=
  decidable_of_iff (∀ i, i < n → bitL (bytesOf s) (a + i) = t) ⟨fun h j h0 h1 => by have := h (j - a) (by omega); rwa [show a + (j - a) = j from by omega] at this, fun h i hi => h (a + i) (by omega) (by omega)⟩
def runOk (s : ByteArray) (a n : Int) : Prop := mapOk s ∧ (1 ≤ n ∧ n ≤ 128) ∧ 0 ≤ a ∧ a ≤ 128 - n
instance (s : ByteArray) (a n : Int) : Decidable (runOk s a n) := by unfold runOk; infer_instance
/-- TakeRun (t = true), GiveRun (t = false). -/
def changed (s : ByteArray) (t : Bool) (a n : Nat) : ByteArray := strOfNums (changeL (bytesOf s) a t n)
def runResult (s : ByteArray) (t : Bool) (a n : Int) : ByteArray × Bool :=
  if runOk s a n then (if ∀ j : Nat, a.toNat ≤ j → j < a.toNat + n.toNat → bitL (bytesOf s) j = !t then (changed s t a.toNat n.toNat, true) else (⟨#[]⟩, false)) else (⟨#[]⟩, false)
end Go.Proofs.YtlljkankongifaaDoor.Abs.Pu
namespace Go.Proofs.YtlljkankongifaaDoor.Abs.Pu
open Go Go.RowKit
set_option linter.unusedVariables false
set_option linter.unusedSectionVars false
set_option linter.unusedSimpArgs false
def areaOk (s : ByteArray) (a b : Int) : Prop := mapOk s ∧ 0 ≤ a ∧ a ≤ b ∧ b ≤ 128
instance (s : ByteArray) (a b : Int) : Decidable (areaOk s a b) := by unfold areaOk; infer_instance
/-- A free line is laid to the gaps before it. -/
def addGap (g : List (Int × Int)) (i : Int) : List (Int × Int) :=
  if 1 ≤ g.length ∧ (g.getD (g.length - 1) ((0, 0) : Int × Int)).1 + (g.getD (g.length - 1) ((0, 0) : Int × Int)).2 = i
  then g.set (g.length - 1) ⟨(g.getD (g.length - 1) ((0, 0) : Int × Int)).1, (g.getD (g.length - 1) ((0, 0) : Int × Int)).2 + 1⟩
  else g ++ [⟨i, 1⟩]
def gapsGo (t : Int → Bool) : Nat → List (Int × Int) → Int → List (Int × Int)
  | 0, g, _ => g
  | d + 1, g, i => if t i then gapsGo t d g (i + 1) else gapsGo t d (addGap g i) (i + 1)
/-- What holds of the gaps of the lines a, .., i - 1. -/
structure Gap (t : Int → Bool) (a i : Int) (g : List (Int × Int)) : Prop where
  each : ∀ x ∈ g, a ≤ x.1 ∧ 1 ≤ x.2 ∧ x.1 + x.2 ≤ i
  free : ∀ x ∈ g, ∀ j, x.1 ≤ j → j < x.1 + x.2 → t j = false
  stop : ∀ x ∈ g, x.1 + x.2 < i → t (x.1 + x.2) = true
  all : ∀ j, a ≤ j → j < i → t j = false → ∃ x ∈ g, x.1 ≤ j ∧ j < x.1 + x.2
  sorted : g.Pairwise (fun x y => x.1 + x.2 < y.1)
theorem snoc_cases {α : Type} (g : List α) : g = [] ∨ ∃ l x, g = l ++ [x] := by
  rcases Nat.eq_zero_or_pos g.length with h | h
  · exact .inl (List.eq_nil_of_length_eq_zero h)
  · have hne : g ≠ [] := by intro e; simp [e] at h
    exact .inr ⟨g.dropLast, g.getLast hne, (List.dropLast_concat_getLast hne).symm⟩
theorem getD_snoc {α : Type} (l : List α) (x d : α) : (l ++ [x]).getD ((l ++ [x]).length - 1) d = x := by
  simp [List.getD_eq_getElem?_getD]
theorem set_snoc {α : Type} (l : List α) (x y : α) : (l ++ [x]).set ((l ++ [x]).length - 1) y = l ++ [y] := by
  simp [List.set_append]
theorem Gap.nil (t : Int → Bool) (a : Int) : Gap t a a [] := ⟨by simp, by simp, by simp, fun j h0 h1 => by omega, List.Pairwise.nil⟩
theorem Gap.taken {t : Int → Bool} {a i : Int} {g : List (Int × Int)} (h : Gap t a i g) (ht : t i = true) : Gap t a (i + 1) g := by
  refine ⟨fun x hx => by have := h.each x hx; omega, h.free, fun x hx hlt => ?_, fun j h0 h1 hj => ?_, h.sorted⟩
  · by_cases e : x.1 + x.2 < i
    · exact h.stop x hx e
    · have := h.each x hx
      rw [show x.1 + x.2 = i from by omega]
      exact ht
  · by_cases e : j < i
    · exact h.all j h0 e hj
    · rw [show j = i from by omega, ht] at hj
      cases hj
theorem Gap.add {t : Int → Bool} {a i : Int} {g : List (Int × Int)} (h : Gap t a i g) (ha : a ≤ i) (ht : t i = false) : Gap t a (i + 1) (addGap g i) := by
  unfold addGap
  rcases snoc_cases g with rfl | ⟨l, x, rfl⟩
  · rw [if_neg (by simp)]
    refine ⟨fun x hx => ?_, fun x hx j h0 h1 => ?_, fun x hx hlt => ?_, fun j h0 h1 hj => ?_, by simp⟩
    · simp at hx; subst hx; simp; omega
    · simp at hx; subst hx; simp at h0 h1; rw [show j = i from by omega]; exact ht
    · simp at hx; subst hx; simp at hlt
    · by_cases e : j < i
      · obtain ⟨x, hx, _⟩ := h.all j h0 e hj
        cases hx
      · exact ⟨⟨i, 1⟩, List.mem_singleton.2 rfl, by show i ≤ j; omega, by show j < i + 1; omega⟩
  · rw [getD_snoc, set_snoc]
    have hx0 := h.each x (by simp)
    have hs := List.pairwise_append.1 h.sorted
    split
    · rename_i c
      have c := c.2
      refine ⟨fun y hy => ?_, fun y hy j h0 h1 => ?_, fun y hy hlt => ?_, fun j h0 h1 hj => ?_, ?_⟩
      · rcases List.mem_append.1 hy with hy | hy
        · have := h.each y (by simp [hy]); omega
        · simp at hy; subst hy; simp; omega
      · rcases List.mem_append.1 hy with hy | hy
        · exact h.free y (by simp [hy]) j h0 h1
        · simp at hy; subst hy; simp at h0 h1
          by_cases e : j < i
          · exact h.free x (by simp) j h0 (by omega)
          · rw [show j = i from by omega]; exact ht
      · rcases List.mem_append.1 hy with hy | hy
        · have := hs.2.2 y hy x (by simp)
          exact h.stop y (by simp [hy]) (by omega)
        · simp at hy; subst hy; simp at hlt; omega
      · by_cases e : j < i
        · obtain ⟨y, hy, h2, h3⟩ := h.all j h0 e hj
          rcases List.mem_append.1 hy with hy | hy
          · exact ⟨y, by simp [hy], h2, h3⟩
          · simp at hy; subst hy
            exact ⟨_, List.mem_append_right _ (List.mem_singleton.2 rfl), h2, by simp; omega⟩
        · exact ⟨_, List.mem_append_right _ (List.mem_singleton.2 rfl), by simp; omega, by simp; omega⟩
      · refine List.pairwise_append.2 ⟨hs.1, by simp, fun y hy z hz => ?_⟩
        simp at hz; subst hz
        exact hs.2.2 y hy x (by simp)
    · rename_i c
      have c : x.1 + x.2 ≠ i := fun e => c ⟨by simp, e⟩
      refine ⟨fun y hy => ?_, fun y hy j h0 h1 => ?_, fun y hy hlt => ?_, fun j h0 h1 hj => ?_, ?_⟩
      · rcases List.mem_append.1 hy with hy | hy
        · have := h.each y hy; omega
        · simp at hy; subst hy; simp; omega
      · rcases List.mem_append.1 hy with hy | hy
        · exact h.free y hy j h0 h1
        · simp at hy; subst hy; simp at h0 h1; rw [show j = i from by omega]; exact ht
      · rcases List.mem_append.1 hy with hy | hy
        · rcases List.mem_append.1 hy with hy2 | hy2
          · have := hs.2.2 y hy2 x (by simp)
            exact h.stop y hy (by omega)
          · simp at hy2; subst hy2
            exact h.stop y hy (by omega)
        · simp at hy; subst hy; simp at hlt
      · by_cases e : j < i
        · obtain ⟨y, hy, h2⟩ := h.all j h0 e hj
          exact ⟨y, List.mem_append_left _ hy, h2⟩
        · exact ⟨_, List.mem_append_right _ (List.mem_singleton.2 rfl), by simp; omega, by simp; omega⟩
      · refine List.pairwise_append.2 ⟨h.sorted, by simp, fun y hy z hz => ?_⟩
        simp at hz; subst hz
        simp
        rcases List.mem_append.1 hy with hy2 | hy2
        · have := hs.2.2 y hy2 x (by simp); omega
        · simp at hy2; subst hy2; omega
theorem Gap.go {t : Int → Bool} {a : Int} : ∀ (d : Nat) (i : Int) (g : List (Int × Int)), Gap t a i g → a ≤ i → Gap t a (i + d) (gapsGo t d g i)
  | 0, i, g, h, _ => by simpa [gapsGo] using h
  | d + 1, i, g, h, ha => by
    simp only [gapsGo]
    rw [show i + ((d + 1 : Nat) : Int) = i + 1 + (d : Nat) from by omega]
    split
    · rename_i e
      exact Gap.go d (i + 1) g (h.taken e) (by omega)
    · rename_i e
      exact Gap.go d (i + 1) _ (h.add ha (by simpa using e)) (by omega)
/-- There are no more gaps than lines. -/
theorem Gap.length {t : Int → Bool} {a i : Int} {g : List (Int × Int)} (h : Gap t a i g) (ha : a ≤ i) : (g.length : Int) ≤ i - a := by
  have key : ∀ (g : List (Int × Int)) (a : Int), a ≤ i → (∀ x ∈ g, a ≤ x.1 ∧ 1 ≤ x.2 ∧ x.1 + x.2 ≤ i) → g.Pairwise (fun x y => x.1 + x.2 < y.1) → (g.length : Int) ≤ i - a := by
    intro g
    induction g with
    | nil => intro a ha _ _; simp; omega
    | cons x g ih =>
      intro a ha he hs
      have hx := he x (by simp)
      have h2 := List.pairwise_cons.1 hs
      have := ih (x.1 + x.2) (by omega) (fun y hy => by have := h2.1 y hy; have := he y (by simp [hy]); omega) h2.2
      simp only [List.length_cons]
      omega
  exact key g a ha h.each h.sorted
def gapsOf (s : ByteArray) (a b : Int) : List (Int × Int) := gapsGo (tkn s) (b - a).toNat [] a
theorem gapsOf_gap (s : ByteArray) (a b : Int) (h : a ≤ b) : Gap (tkn s) a b (gapsOf s a b) := by
  have g := Gap.go (t := tkn s) (b - a).toNat a [] (Gap.nil _ a) (by omega)
  rwa [show a + ((b - a).toNat : Int) = b from by omega] at g
def allFree (t : Int → Bool) (i n : Int) : Prop := ∀ j, i ≤ j → j < i + n → t j = false
theorem allFree_dec (t : Int → Bool) (i n : Int) : allFree t i n ∨ ¬ allFree t i n := Classical.em _
/-- The least line of a .. at which n free ones begin that end at b at the latest; -1, if there is none. -/
def IsFirst (t : Int → Bool) (a b n x : Int) : Prop :=
  (x = -1 ∧ ∀ y, a ≤ y → y + n ≤ b → ¬ allFree t y n) ∨ (a ≤ x ∧ x + n ≤ b ∧ allFree t x n ∧ ∀ y, a ≤ y → y < x → ¬ allFree t y n)
theorem IsFirst.unique {t : Int → Bool} {a b n x y : Int} (ha : 0 ≤ a) (h : IsFirst t a b n x) (k : IsFirst t a b n y) : x = y := by
  rcases h with ⟨rfl, h⟩ | ⟨h0, h1, h2, h3⟩ <;> rcases k with ⟨rfl, k⟩ | ⟨k0, k1, k2, k3⟩
  · rfl
  · exact absurd k2 (h y k0 k1)
  · exact absurd h2 (k x h0 h1)
  · by_cases e : x < y
    · exact absurd h2 (k3 x h0 e)
    · by_cases e2 : y < x
      · exact absurd k2 (h3 y k0 e2)
      · omega
def firstGap : List (Int × Int) → Int → Int
  | [], _ => -1
  | x :: g, n => if x.2 ≥ n then x.1 else firstGap g n
theorem firstGap_isFirst {t : Int → Bool} {a b n : Int} (hn : 1 ≤ n) {g : List (Int × Int)} (h : Gap t a b g) : IsFirst t a b n (firstGap g n) := by
  -- every run of free lines lies in a gap
  have run : ∀ y, a ≤ y → y + n ≤ b → allFree t y n → ∃ x ∈ g, x.1 ≤ y ∧ y + n ≤ x.1 + x.2 := by
    intro y hy hb hf
    obtain ⟨x, hx, h1, h2⟩ := h.all y hy (by omega) (hf y (by omega) (by omega))
    refine ⟨x, hx, h1, ?_⟩
    by_cases e : y + n ≤ x.1 + x.2
    · exact e
    · have := h.stop x hx (by omega)
      rw [hf (x.1 + x.2) (by omega) (by omega)] at this
      cases this
  have key : ∀ (l r : List (Int × Int)), g = l ++ r → (∀ x ∈ l, ¬ x.2 ≥ n) → IsFirst t a b n (firstGap r n) := by
    intro l r
    induction r generalizing l with
    | nil =>
      intro e hl
      refine .inl ⟨rfl, fun y hy hb hf => ?_⟩
      obtain ⟨x, hx, h1, h2⟩ := run y hy hb hf
      exact hl x (by rw [e] at hx; simpa using hx) (by omega)
    | cons x r ih =>
      intro e hl
      have hxg : x ∈ g := by rw [e]; simp
      have hx := h.each x hxg
      simp only [firstGap]
      split
      · rename_i c
        refine .inr ⟨hx.1, by omega, fun j h0 h1 => h.free x hxg j h0 (by omega), fun y hy hlt hf => ?_⟩
        obtain ⟨z, hz, h1, h2⟩ := run y hy (by omega) hf
        have hs := h.sorted
        rw [e] at hs hz
        have hs := List.pairwise_append.1 hs
        rcases List.mem_append.1 hz with hz | hz
        · exact hl z hz (by omega)
        · rcases List.mem_cons.1 hz with rfl | hz
          · omega
          · have := (List.pairwise_cons.1 hs.2.1).1 z hz
            omega
      · rename_i c
        refine ih (l ++ [x]) (by rw [e]; simp) (fun z hz => ?_)
        rcases List.mem_append.1 hz with hz | hz
        · exact hl z hz
        · simp at hz; subst hz; exact c
  exact key [] g rfl (by simp)
def findRun (s : ByteArray) (a b n : Int) : Int := if areaOk s a b then (if 1 ≤ n ∧ n ≤ 128 then firstGap (gapsOf s a b) n else -1) else -1
end Go.Proofs.YtlljkankongifaaDoor.Abs.Pu
namespace Go.Proofs.YtlljkankongifaaDoor.Abs.Pu
open Go Go.RowKit
set_option linter.unusedVariables false
set_option linter.unusedSectionVars false
set_option linter.unusedSimpArgs false
theorem bytesOf_extract (s : ByteArray) (i : Nat) : bytesOf (s.extract i s.size) = (bytesOf s).drop i := by
  unfold bytesOf
  rw [ByteArray.data_extract, Array.toList_extract]
  have e : s.size = s.data.toList.length := by rw [Array.length_toList]; rfl
  rw [List.extract_eq_take_drop, List.take_of_length_le (by rw [List.length_drop]; omega), List.map_drop]
theorem mapOk_iff (s : ByteArray) : mapOk s ↔ (bytesOf s).length = 64 ∧ (bytesOf s).drop 16 = List.replicate 48 0 := by
  unfold mapOk
  rw [bytesOf_length]
  refine and_congr_right fun h => ⟨fun k => ?_, fun k => bytesOf_inj ?_⟩
  · rw [← bytesOf_extract, k, bytesOf_zerosB]
  · rw [bytesOf_extract, k, bytesOf_zerosB]
theorem bitL_zeros (n j : Nat) : bitL (List.replicate n 0) j = false := by
  unfold bitL
  have e : (List.replicate n (0 : Int)).getD (j / 8) 0 = 0 := by
    rw [List.getD_eq_getElem?_getD, List.getElem?_replicate]
    split <;> rfl
  rw [e]
  simp [bitv]
theorem zerosB_map : mapOk (zerosB 64) := (mapOk_iff _).2 ⟨by rw [bytesOf_zerosB, List.length_replicate], by rw [bytesOf_zerosB, List.drop_replicate]⟩
theorem tkn_zeros (n j : Nat) : tkn (zerosB n) (j : Int) = false := by
  unfold tkn
  rw [bytesOf_zerosB]
  exact bitL_zeros n _
theorem change_drop (m : List Int) (x y : Nat) (t : Bool) (h : x + y ≤ 128) : (changeL m x t y).drop 16 = m.drop 16 := by
  induction y with
  | zero => rfl
  | succ y ih =>
    rw [changeL]
    unfold change1
    split
    · rw [List.drop_set_of_lt (by omega), List.drop_set_of_lt (by omega), ih (by omega)]
    · rw [List.drop_set_of_lt (by omega), ih (by omega)]
theorem changed_map {m : ByteArray} (hm : mapOk m) (x y : Nat) (t : Bool) (h : x + y ≤ 128) : mapOk (changed m t x y) ∧ ∀ j : Nat, j < 512 → tkn (changed m t x y) (j : Int) = if x ≤ j ∧ j < x + y then t else tkn m (j : Int) := by
  have h64 : (bytesOf m).length = 64 := by rw [bytesOf_length]; exact hm.1
  have hb := bytesOf_isBytes m
  have hbs := changeL_isBytes hb x t y
  have e : bytesOf (changed m t x y) = changeL (bytesOf m) x t y := by unfold changed; rw [bytesOf_strOfNums hbs]
  refine ⟨(mapOk_iff _).2 (by rw [e, changeL_length, change_drop _ _ _ _ h]; exact (mapOk_iff _).1 hm), fun j hj => ?_⟩
  unfold tkn
  rw [e, Int.toNat_natCast, changeL_bit hb x t y (by omega)]
/-- What a run that can be taken comes to. -/
theorem take_yes {m : ByteArray} {a n : Int} (h : (runResult m true a n).2 = true) : runOk m a n ∧ (∀ j : Nat, a.toNat ≤ j → j < a.toNat + n.toNat → tkn m (j : Int) = false) ∧ runResult m true a n = (changed m true a.toNat n.toNat, true) := by
  unfold runResult at h ⊢
  split at h
  · rename_i c
    split at h
    · rename_i c2
      refine ⟨c, fun j h0 h1 => ?_, by rw [if_pos c, if_pos c2]⟩
      have := c2 j h0 h1
      unfold tkn
      rw [Int.toNat_natCast]
      simpa using this
    · cases h
  · cases h
theorem take_iff {m : ByteArray} {a n : Int} (h : runOk m a n) : (runResult m true a n).2 = true ↔ ∀ j : Nat, a.toNat ≤ j → j < a.toNat + n.toNat → tkn m (j : Int) = false := by
  refine ⟨fun k => (take_yes k).2.1, fun k => ?_⟩
  unfold runResult
  rw [if_pos h, if_pos (fun j h0 h1 => by
    have := k j h0 h1
    unfold tkn at this
    rw [Int.toNat_natCast] at this
    rw [this]; rfl)]
/-- Turned, where it is free. -/
theorem turned_is {m : ByteArray} {x y : Nat} (hm : mapOk m) (h : x + y ≤ 128) (hf : ∀ j : Nat, x ≤ j → j < x + y → tkn m (j : Int) = false) : strOfNums (turnL (bytesOf m) x y) = changed m true x y := by
  unfold changed
  rw [turn_change (bytesOf_isBytes m) x y true (by rw [bytesOf_length, hm.1]; omega) (fun j h0 h1 => by
    have := hf j h0 h1
    unfold tkn at this
    rw [Int.toNat_natCast] at this
    rw [this]; rfl)]
end Go.Proofs.YtlljkankongifaaDoor.Abs.Pu
namespace Go.Proofs.YtlljkankongifaaDoor.Abs.Pu
open Go Go.RowKit
set_option linter.unusedVariables false
set_option linter.unusedSectionVars false
set_option linter.unusedSimpArgs false
theorem impl_zeros_f (n : Nat) (h : n ≤ 1048576) : impl_zeros.f (n : Int) = some (zerosB n) := by
  unfold impl_zeros.f strings_Repeat.f
  rw [if_pos (by omega), if_pos (by omega), if_pos (by decide)]
  simp only [Option.bind_some, Int.toNat_natCast]
  refine congrArg some ?_
  rw [repeat_zero]
  simp [zerosB, strOfNums]
theorem spec_l1Zeros_f (n : Nat) (h : n ≤ 1048576) : spec_l1Zeros.f (n : Int) = some (zerosB n) := by
  unfold spec_l1Zeros.f
  rw [if_pos (by omega), if_pos (by rw [Int.toNat_natCast]; omega), Int.toNat_natCast]
  rfl
end Go.Proofs.YtlljkankongifaaDoor.Abs.Pu
namespace Go.Proofs.YtlljkankongifaaDoor.Abs
open Go Go.RowKit
set_option linter.unusedVariables false
set_option linter.unusedSectionVars false
set_option linter.unusedSimpArgs false
theorem l1In_f (a lo hi : Int) : spec_l1In.f a lo hi = some (decide (lo ≤ a) && decide (a ≤ hi)) := by
  unfold spec_l1In.f
  split
  · rename_i h; simp [show lo ≤ a from h]
  · rename_i h; have : ¬ lo ≤ a := h; simp [this]
theorem within_f (a lo hi : Int) : impl_within.f a lo hi = some (decide (lo ≤ a) && decide (a ≤ hi)) := by
  unfold impl_within.f
  split
  · rename_i h; simp [show lo ≤ a from h]
  · rename_i h; have : ¬ lo ≤ a := h; simp [this]
end Go.Proofs.YtlljkankongifaaDoor.Abs
namespace Go.Proofs.YtlljkankongifaaDoor.Abs.Pu
open Go Go.RowKit
set_option linter.unusedVariables false
set_option linter.unusedSectionVars false
set_option linter.unusedSimpArgs false
theorem wrap_u8 (x : Int) : IntKind.u8.wrap x = x % 256 := by simp [IntKind.wrap, IntKind.bits, IntKind.signed]
theorem shl1_u8 (r : Nat) (hr : r < 8) : shlA .u8 1 (r : Int) = 2 ^ r % 256 := by
  unfold shlA
  rw [Int.toNat_natCast, wrap_u8]
  rw [show min r IntKind.u8.bits = r from Nat.min_eq_left (by show r ≤ 8; omega)]
  simp
theorem shr_u8 (x : Int) (r : Nat) (hr : r < 8) : shrA .u8 x (r : Int) = x / 2 ^ r := by
  unfold shrA
  rw [Int.toNat_natCast, show min r IntKind.u8.bits = r from Nat.min_eq_left (by show r ≤ 8; omega)]
theorem bit_read (s : ByteArray) (n : Nat) : decide (andA .u8 (shrA .u8 (bt s ((n / 8 : Nat) : Int)) ((n % 8 : Nat) : Int)) 1 = 1) = tkn s (n : Int) := by
  have hb := bt_range s ((n / 8 : Nat) : Int)
  have hd := div_range hb.1 hb.2 (n % 8)
  rw [shr_u8 _ _ (by omega), andA_eq, and_one hd.1 hd.2, bt_bytesOf]
  unfold tkn bitL bitv
  rw [Int.toNat_natCast]
  rfl
theorem impl_isMap_f (s : ByteArray) : impl_isMap.f s = some (decide (mapOk s)) := by
  unfold impl_isMap.f mapOk
  have z := impl_zeros_f 48 (by omega)
  by_cases h : s.size = 64
  · rw [if_pos (by omega), if_pos (by omega), show (48 : Int) = ((48 : Nat) : Int) from rfl, z]
    simp only [Option.bind_some, toList_inj, Int.toNat_natCast]
    exact congrArg some (decide_eq_decide.2 ⟨fun e => ⟨h, e⟩, fun e => e.2⟩)
  · rw [if_neg (by omega)]
    exact congrArg some (decide_eq_false (fun e => h e.1)).symm
theorem idx8 (n : Nat) (hn : n ≤ 1099511627776) : wrap64 (Int.tdiv (n : Int) 8) = ((n / 8 : Nat) : Int) ∧ Int.tmod (n : Int) 8 = ((n % 8 : Nat) : Int) := by
  rw [Int.tdiv_eq_ediv_of_nonneg (by omega), Int.tmod_eq_emod_of_nonneg (by omega), w64 (by omega) (by omega)]
  omega
theorem impl_isTaken_f (s : ByteArray) (n : Nat) (h : n / 8 < s.size) (hn : n ≤ 1099511627776) : impl_isTaken.f s (n : Int) = some (tkn s (n : Int)) := by
  unfold impl_isTaken.f
  rw [(idx8 n hn).1, (idx8 n hn).2, if_pos (by omega), if_pos (by omega), if_neg (by omega), byteAt_eq, bit_read]
theorem changedMap_ev (s : ByteArray) (x y : Nat) (h : x + y ≤ 8 * s.size) (hs : s.size ≤ 1048576) : Ev (fun k => impl_changedMap.f k s (x : Int) (y : Int) true) (changed s true x y) := by
  have key : ∀ j, j ≤ y → Ev (fun k => impl_changedMap.p8 k (x : Int) (y : Int) true (changeL (bytesOf s) x true j) ((x + j : Nat) : Int)) (changed s true x y) := by
    refine down ?_ ?_
    · refine Ev.step (fun k => by rw [impl_changedMap.p8]) ?_
      rw [w64 (x := (x : Int) + (y : Int)) (by omega) (by omega)]
      exact Ev.neg (by omega) (Ev.eq rfl)
    · intro j hj ih
      have hl : (changeL (bytesOf s) x true j).length = s.size := by rw [changeL_length, bytesOf_length]
      have hc : changeL (bytesOf s) x true (j + 1) = change1 (changeL (bytesOf s) x true j) (x + j) true := rfl
      rw [hc] at ih
      generalize changeL (bytesOf s) x true j = xs at *
      unfold change1 at ih
      rw [if_pos rfl] at ih
      refine Ev.step (fun k => by rw [impl_changedMap.p8]) ?_
      rw [w64 (x := (x : Int) + (y : Int)) (by omega) (by omega), (idx8 (x + j) (by omega)).1, (idx8 (x + j) (by omega)).2, Int.toNat_natCast, shl1_u8 _ (by omega), andNotA_eq, orA_eq, rd_eq, rd_eq]
      have hg : (xs.set ((x + j) / 8) (Go.bits .andNot .u8 (xs.getD ((x + j) / 8) 0) (2 ^ ((x + j) % 8) % 256))).getD ((x + j) / 8) 0 = Go.bits .andNot .u8 (xs.getD ((x + j) / 8) 0) (2 ^ ((x + j) % 8) % 256) := by
        rw [List.getD_eq_getElem?_getD, List.getElem?_set_self (by omega)]; rfl
      rw [hg]
      have hl2 : (xs.set ((x + j) / 8) (Go.bits .andNot .u8 (xs.getD ((x + j) / 8) 0) (2 ^ ((x + j) % 8) % 256))).length = s.size := by rw [List.length_set]; exact hl
      refine Ev.pos (by omega) (Ev.pos (by omega) (Ev.pos (by omega) (Ev.neg (by omega) (Ev.pos (by omega) (Ev.pos (by omega) (Ev.pos rfl (Ev.pos (by omega) (Ev.pos (by rw [hl2]; omega) (Ev.neg (by omega) (Ev.pos (by omega) (Ev.pos (by rw [hl2]; omega) ?_)))))))))))
      refine Ev.step (fun k => by rw [impl_changedMap.p24]) ?_
      rw [w64s (i := x + j) (by omega)]
      exact ih
  unfold impl_changedMap.f
  exact key 0 (Nat.zero_le _)
theorem impl_isRun_ev (s : ByteArray) (a n : Int) : Ev (fun k => impl_isRun.f k s a n false) (decide (runOk s a n ∧ ∀ j : Nat, a.toNat ≤ j → j < a.toNat + n.toNat → bitL (bytesOf s) j = false)) := by
  unfold impl_isRun.f
  refine Ev.bindo (impl_isMap_f s) (Ev.cases (fun c => ?_) (fun c => Ev.eq (decide_eq_false (fun h => c (decide_eq_true h.1.1))).symm))
  have c : mapOk s := of_decide_eq_true c
  refine Ev.bindo (within_f _ _ _) (Ev.cases (fun c2 => ?_) (fun c2 => Ev.eq (decide_eq_false (fun h => c2 (by simp; exact h.1.2.1))).symm))
  simp only [Bool.and_eq_true, decide_eq_true_eq] at c2
  rw [w64 (x := 128 - n) (by omega) (by omega)]
  refine Ev.bindo (within_f _ _ _) (Ev.cases (fun c3 => ?_) (fun c3 => Ev.eq (decide_eq_false (fun h => c3 (by simp; exact h.1.2.2))).symm))
  simp only [Bool.and_eq_true, decide_eq_true_eq] at c3
  have h64 := c.1
  have hrun : runOk s a n := ⟨c, c2, c3.1, c3.2⟩
  obtain ⟨x, rfl⟩ := Int.eq_ofNat_of_zero_le c3.1
  obtain ⟨y, rfl⟩ := Int.eq_ofNat_of_zero_le (show 0 ≤ n by omega)
  rw [Int.toNat_natCast, Int.toNat_natCast]
  have key : ∀ j, j ≤ y → (∀ q : Nat, x ≤ q → q < x + j → bitL (bytesOf s) q = false) → Ev (fun k => impl_isRun.p14 k s (x : Int) (y : Int) false ((x + j : Nat) : Int)) (decide (runOk s (x : Int) (y : Int) ∧ ∀ j : Nat, x ≤ j → j < x + y → bitL (bytesOf s) j = false)) := by
    refine down ?_ ?_
    · intro hf
      refine Ev.step (fun k => by rw [impl_isRun.p14]) ?_
      rw [w64 (x := (x : Int) + (y : Int)) (by omega) (by omega)]
      exact Ev.neg (by omega) (Ev.eq (decide_eq_true ⟨hrun, hf⟩).symm)
    · intro j hj ih hf
      refine Ev.step (fun k => by rw [impl_isRun.p14]) ?_
      rw [w64 (x := (x : Int) + (y : Int)) (by omega) (by omega), w64s (i := x + j) (by omega)]
      refine Ev.pos (by omega) (Ev.bindo (impl_isTaken_f s (x + j) (by omega) (by omega)) ?_)
      have ht : tkn s ((x + j : Nat) : Int) = bitL (bytesOf s) (x + j) := by unfold tkn; rw [Int.toNat_natCast]
      refine Ev.cases (fun e => ?_) (fun e => Ev.eq (decide_eq_false (fun h => e ?_)).symm)
      · refine ih (fun q h0 h1 => ?_)
        by_cases e2 : q = x + j
        · subst e2; rw [← ht]; exact e
        · exact hf q h0 (by omega)
      · rw [ht]
        exact h.2 (x + j) (by omega) (by omega)
  exact key 0 (Nat.zero_le _) (fun q h0 h1 => by omega)
theorem impl_TakeRun_ev (s : ByteArray) (a n : Int) : Ev (fun k => impl_TakeRun.f k s a n) (runResult s true a n) := by
  unfold impl_TakeRun.f runResult
  simp only [Bool.not_true]
  refine Ev.bind (impl_isRun_ev s a n) (Ev.cases (fun c => ?_) (fun c => Ev.eq ?_))
  · obtain ⟨c, hb⟩ := of_decide_eq_true c
    rw [if_pos c, if_pos hb]
    obtain ⟨hm, ⟨h1, h2⟩, h3, h4⟩ := c
    have h64 := hm.1
    obtain ⟨x, rfl⟩ := Int.eq_ofNat_of_zero_le h3
    obtain ⟨y, rfl⟩ := Int.eq_ofNat_of_zero_le (show 0 ≤ n by omega)
    exact Ev.bind (changedMap_ev s x y (by omega) (by omega)) (Ev.eq rfl)
  · by_cases e : runOk s a n
    · rw [if_pos e, if_neg (fun h => c (decide_eq_true ⟨e, h⟩))]
    · rw [if_neg e]
theorem l6Turn_ev (s : ByteArray) (x y : Nat) (h : x + y ≤ 8 * s.size) (hs : s.size ≤ 1048576) : Ev (fun k => spec_l6Turn.f k s (x : Int) (y : Int)) (strOfNums (turnL (bytesOf s) x y)) := by
  have key : ∀ j, j ≤ y → Ev (fun k => spec_l6Turn.p8 k (x : Int) (y : Int) (turnL (bytesOf s) x j) ((x + j : Nat) : Int)) (strOfNums (turnL (bytesOf s) x y)) := by
    refine down ?_ ?_
    · refine Ev.step (fun k => by rw [spec_l6Turn.p8]) ?_
      rw [w64 (x := (x : Int) + (y : Int)) (by omega) (by omega)]
      exact Ev.neg (by omega) (Ev.eq rfl)
    · intro j hj ih
      have hl : (turnL (bytesOf s) x j).length = s.size := by rw [turnL_length, bytesOf_length]
      have hc : turnL (bytesOf s) x (j + 1) = turn1 (turnL (bytesOf s) x j) (x + j) := rfl
      rw [hc] at ih
      generalize turnL (bytesOf s) x j = xs at *
      unfold turn1 at ih
      refine Ev.step (fun k => by rw [spec_l6Turn.p8]) ?_
      have hu : IntKind.u64.wrap (((x + j) % 8 : Nat) : Int) = (((x + j) % 8 : Nat) : Int) := by simp [IntKind.wrap, IntKind.bits, IntKind.signed]; omega
      rw [w64 (x := (x : Int) + (y : Int)) (by omega) (by omega), (idx8 (x + j) (by omega)).1, (idx8 (x + j) (by omega)).2, hu, Int.toNat_natCast, shl1_u8 _ (by omega), xorA_eq, rd_eq, w64s (i := x + j) (by omega)]
      exact Ev.pos (by omega) (Ev.pos (by omega) (Ev.pos (by omega) (Ev.neg (by omega) (Ev.pos (by omega) (Ev.pos (by omega) ih)))))
  unfold spec_l6Turn.f
  exact key 0 (Nat.zero_le _)
end Go.Proofs.YtlljkankongifaaDoor.Abs.Pu
namespace Go.Proofs.YtlljkankongifaaDoor.Abs.Pu
open Go Go.RowKit
set_option linter.unusedVariables false
set_option linter.unusedSectionVars false
set_option linter.unusedSimpArgs false
theorem spec_l6Map_f (s : ByteArray) : spec_l6Map.f s = some (decide (mapOk s)) := by
  unfold spec_l6Map.f mapOk
  have z := spec_l1Zeros_f 48 (by omega)
  by_cases h : s.size = 64
  · rw [if_pos (by omega), if_pos (by omega), show (48 : Int) = ((48 : Nat) : Int) from rfl, z]
    simp only [Option.bind_some, toList_inj, Int.toNat_natCast]
    exact congrArg some (decide_eq_decide.2 ⟨fun e => ⟨h, e⟩, fun e => e.2⟩)
  · rw [if_neg (by omega)]
    exact congrArg some (decide_eq_false (fun e => h e.1)).symm
theorem spec_l6Bit_f (s : ByteArray) (n : Nat) (h : n / 8 < s.size) (hn : n ≤ 1099511627776) : spec_l6Bit.f s (n : Int) = some (tkn s (n : Int)) := by
  unfold spec_l6Bit.f
  have hu : IntKind.u64.wrap ((n % 8 : Nat) : Int) = ((n % 8 : Nat) : Int) := by simp [IntKind.wrap, IntKind.bits, IntKind.signed]; omega
  rw [(idx8 n hn).1, (idx8 n hn).2, hu, if_pos (by omega), if_pos (by omega), if_neg (by omega), byteAt_eq, bit_read]
theorem impl_bit (s : ByteArray) (n : Int) (hs : mapOk s) (h0 : 0 ≤ n) (h1 : n < 128) : impl_isTaken.f s n = some (tkn s n) := by
  obtain ⟨m, rfl⟩ := Int.eq_ofNat_of_zero_le h0
  exact impl_isTaken_f s m (by have := hs.1; omega) (by omega)
theorem spec_bit (s : ByteArray) (n : Int) (hs : mapOk s) (h0 : 0 ≤ n) (h1 : n < 128) : spec_l6Bit.f s n = some (tkn s n) := by
  obtain ⟨m, rfl⟩ := Int.eq_ofNat_of_zero_le h0
  exact spec_l6Bit_f s m (by have := hs.1; omega) (by omega)
theorem area_f (s : ByteArray) (a b : Int) : ((some (decide (mapOk s))).bind fun t1 => (if t1 = true then (if a ≥ 0 then (if a ≤ b then (some (decide (b ≤ 128))) else (some false)) else (some false)) else (some false))) = some (decide (areaOk s a b)) := by
  unfold areaOk
  rw [Option.bind_some]
  by_cases c : mapOk s
  · simp only [c, decide_true, if_true, true_and]
    by_cases h1 : a ≥ 0
    · by_cases h2 : a ≤ b
      · simp [h1, h2]
      · simp [h1, h2]
    · simp [h1]
  · simp [c]
theorem impl_isArea_f (s : ByteArray) (a b : Int) : impl_isArea.f s a b = some (decide (areaOk s a b)) := by
  unfold impl_isArea.f
  rw [impl_isMap_f]
  exact area_f s a b
theorem spec_l6Range_f (s : ByteArray) (a b : Int) : spec_l6Range.f s a b = some (decide (areaOk s a b)) := by
  unfold spec_l6Range.f
  rw [spec_l6Map_f]
  exact area_f s a b
theorem rdP_last (g : List (Int × Int)) (h : 1 ≤ g.length) : rdOf (0, 0) g ((g.length : Int) - 1) = g.getD (g.length - 1) (0, 0) := by
  unfold rdOf
  rw [show ((g.length : Int) - 1).toNat = g.length - 1 from by omega]
theorem impl_gaps_ev (s : ByteArray) (a b : Int) (hm : mapOk s) (h0 : 0 ≤ a) (h1 : a ≤ b) (h2 : b ≤ 128) : Ev (fun k => impl_gaps.f k s a b) (gapsOf s a b) := by
  have l : ∀ (d : Nat) (i : Int) (g : List (Int × Int)), (b - i).toNat = d → a ≤ i → i ≤ b → Gap (tkn s) a i g → Ev (fun k => impl_gaps.p8 k s b g i) (gapsGo (tkn s) d g i) := by
    intro d
    induction d with
    | zero =>
      intro i g hd hi hb hg
      refine Ev.step (fun k => by rw [impl_gaps.p8]) ?_
      exact Ev.neg (by omega) (Ev.eq rfl)
    | succ d ih =>
      intro i g hd hi hb hg
      have hl := hg.length hi
      refine Ev.step (fun k => by rw [impl_gaps.p8]) ?_
      refine Ev.pos (by omega) (Ev.bindo (impl_bit s i hm (by omega) (by omega)) ?_)
      rw [gapsGo]
      by_cases e : tkn s i = true
      · rw [if_pos e, w64 (x := i + 1) (by omega) (by omega)]
        exact Ev.pos e (ih (i + 1) g (by omega) (by omega) (by omega) (hg.taken e))
      · rw [if_neg e]
        have e' : tkn s i = false := by simpa using e
        have nxt := ih (i + 1) _ (by omega) (by omega) (by omega) (hg.add hi e')
        rw [w64 (x := (g.length : Int) - 1) (by omega) (by omega)]
        refine Ev.neg e ?_
        by_cases c1 : 1 ≤ g.length
        · rw [rdP_last g c1]
          have hx : a ≤ (g.getD (g.length - 1) (0, 0)).1 ∧ 1 ≤ (g.getD (g.length - 1) (0, 0)).2 ∧ (g.getD (g.length - 1) (0, 0)).1 + (g.getD (g.length - 1) (0, 0)).2 ≤ i := by
            rcases snoc_cases g with rfl | ⟨l, x, rfl⟩
            · simp at c1
            · rw [getD_snoc]
              exact hg.each x (by simp)
          have hR := rdP_last g c1
          unfold addGap at nxt ⊢
          generalize g.getD (g.length - 1) (0, 0) = L at *
          rw [w64 (x := L.1 + L.2) (by omega) (by omega)]
          refine Ev.pos (by omega) (Ev.pos (by omega) (Ev.pos (by omega) (Ev.pos (by omega) (Ev.pos (by omega) ?_))))
          by_cases c2 : L.1 + L.2 = i
          · rw [if_pos ⟨c1, c2⟩] at nxt ⊢
            rw [decide_eq_true c2]
            refine Ev.step (fun k => by rw [impl_gaps.p27]) ?_
            rw [hR, w64 (x := i + 1) (by omega) (by omega), w64 (x := L.2 + 1) (by omega) (by omega), show ((g.length : Int) - 1).toNat = g.length - 1 from by omega]
            exact Ev.pos rfl (Ev.pos (by omega) (Ev.pos (by omega) (Ev.pos (by omega) (Ev.pos (by omega) nxt))))
          · rw [if_neg (fun h => c2 h.2)] at nxt ⊢
            rw [decide_eq_false c2]
            refine Ev.step (fun k => by rw [impl_gaps.p27]) ?_
            rw [w64 (x := i + 1) (by omega) (by omega)]
            exact Ev.neg (by simp) (Ev.pos (by omega) nxt)
        · unfold addGap at nxt ⊢
          rw [if_neg (fun h => c1 h.1)] at nxt ⊢
          refine Ev.neg (by omega) (Ev.step (fun k => by rw [impl_gaps.p27]) ?_)
          rw [w64 (x := i + 1) (by omega) (by omega)]
          exact Ev.neg (by simp) (Ev.pos (by omega) nxt)
  unfold impl_gaps.f
  exact l _ a [] rfl (by omega) h1 (Gap.nil _ a)
theorem impl_FindRun_ev (s : ByteArray) (a b n : Int) : Ev (fun k => impl_FindRun.f k s a b n) (findRun s a b n) := by
  unfold impl_FindRun.f findRun
  refine Ev.bindo (impl_isArea_f s a b) (Ev.cases (fun c => ?_) (fun c => by rw [if_neg (fun h => c (decide_eq_true h))]; exact Ev.eq rfl))
  have c : areaOk s a b := of_decide_eq_true c
  rw [if_pos c]
  refine Ev.bindo (within_f _ _ _) (Ev.cases (fun c2 => ?_) (fun c2 => by rw [if_neg (fun h => c2 (by simp; exact h))]; exact Ev.eq rfl))
  simp only [Bool.and_eq_true, decide_eq_true_eq] at c2
  rw [if_pos c2]
  have hg := gapsOf_gap s a b c.2.2.1
  have hgl := hg.length c.2.2.1
  obtain ⟨hm, h0, h1, h2⟩ := c
  refine Ev.bind (impl_gaps_ev s a b hm h0 h1 h2) ?_
  have key : ∀ i, i ≤ (gapsOf s a b).length → Ev (fun k => impl_FindRun.p14 k n (gapsOf s a b) ((gapsOf s a b).length : Int) (i : Int)) (firstGap ((gapsOf s a b).drop i) n) := by
    generalize gapsOf s a b = G at *
    refine down ?_ ?_
    · refine Ev.step (fun k => by rw [impl_FindRun.p14]) ?_
      rw [List.drop_eq_nil_of_le (Nat.le_refl _)]
      exact Ev.neg (by omega) (Ev.eq rfl)
    · intro i hi ih
      refine Ev.step (fun k => by rw [impl_FindRun.p14]) ?_
      have hgi : rdOf (0, 0) G (i : Int) = G[i] := rdg hi
      rw [hgi, w64s (i := i) (by omega), List.drop_eq_getElem_cons hi, firstGap]
      refine Ev.pos (by omega) (Ev.pos (by omega) (Ev.pos (by omega) ?_))
      by_cases c3 : G[i].2 ≥ n
      · rw [if_pos c3]; exact Ev.pos c3 (Ev.eq rfl)
      · rw [if_neg c3]; exact Ev.neg c3 ih
  have := key 0 (Nat.zero_le _)
  rw [List.drop_zero] at this
  exact this
theorem spec_l6Free_ev (s : ByteArray) (i n : Int) (hm : mapOk s) (h0 : 0 ≤ i) (hn : 0 ≤ n) (h2 : i + n ≤ 128) : ∃ b : Bool, Ev (fun k => spec_l6Free.f k s i n) b ∧ (b = true ↔ allFree (tkn s) i n) := by
  have l : ∀ (d : Nat) (j : Int), (i + n - j).toNat = d → i ≤ j → j ≤ i + n → (∀ q, i ≤ q → q < j → tkn s q = false) → ∃ b : Bool, Ev (fun k => spec_l6Free.p6 k s i n j) b ∧ (b = true ↔ allFree (tkn s) i n) := by
    intro d
    induction d with
    | zero =>
      intro j hd hj hj2 hf
      refine ⟨true, Ev.step (fun k => by rw [spec_l6Free.p6]) ?_, fun _ q a0 a1 => hf q a0 (by omega), fun _ => rfl⟩
      rw [w64 (x := i + n) (by omega) (by omega)]
      exact Ev.neg (by omega) (Ev.eq rfl)
    | succ d ih =>
      intro j hd hj hj2 hf
      by_cases e : tkn s j = true
      · refine ⟨false, Ev.step (fun k => by rw [spec_l6Free.p6]) ?_, fun h => (by cases h), fun h => ?_⟩
        · rw [w64 (x := i + n) (by omega) (by omega)]
          exact Ev.pos (by omega) (Ev.bindo (spec_bit s j hm (by omega) (by omega)) (Ev.pos e (Ev.eq rfl)))
        · rw [h j hj (by omega)] at e
          cases e
      · obtain ⟨b, hb, hi⟩ := ih (j + 1) (by omega) (by omega) (by omega) (fun q a0 a1 => by
          by_cases e2 : q = j
          · rw [e2]; simpa using e
          · exact hf q a0 (by omega))
        refine ⟨b, Ev.step (fun k => by rw [spec_l6Free.p6]) ?_, hi⟩
        rw [w64 (x := i + n) (by omega) (by omega), w64 (x := j + 1) (by omega) (by omega)]
        exact Ev.pos (by omega) (Ev.bindo (spec_bit s j hm (by omega) (by omega)) (Ev.neg e hb))
  unfold spec_l6Free.f
  exact l _ i rfl (by omega) (by omega) (fun q a0 a1 => by omega)
theorem findRun_first {s : ByteArray} {a b n : Int} (c : areaOk s a b) (c2 : 1 ≤ n ∧ n ≤ 128) : IsFirst (tkn s) a b n (findRun s a b n) := by
  unfold findRun
  rw [if_pos c, if_pos c2]
  exact firstGap_isFirst c2.1 (gapsOf_gap s a b c.2.2.1)
theorem spec_FindRun_ev (s : ByteArray) (a b n : Int) : Ev (fun k => spec_FindRun.f k s a b n) (findRun s a b n) := by
  unfold spec_FindRun.f
  have no : ¬ (areaOk s a b ∧ 1 ≤ n ∧ n ≤ 128) → findRun s a b n = -1 := fun h => by
    unfold findRun
    split
    · split
      · exact absurd ⟨by assumption, by assumption⟩ h
      · rfl
    · rfl
  refine Ev.bindo (spec_l6Range_f s a b) (Ev.cases (fun c => ?_) (fun c => by rw [no (fun h => c (decide_eq_true h.1))]; exact Ev.eq rfl))
  have c : areaOk s a b := of_decide_eq_true c
  refine Ev.bindo (l1In_f _ _ _) (Ev.cases (fun c2 => ?_) (fun c2 => by rw [no (fun h => c2 (by simp; exact h.2))]; exact Ev.eq rfl))
  simp only [Bool.and_eq_true, decide_eq_true_eq] at c2
  have hF := findRun_first c c2
  obtain ⟨hm, h0, h1, h2⟩ := c
  have l : ∀ (d : Nat) (i : Int), (b - i).toNat = d → a ≤ i → i ≤ b → (∀ y, a ≤ y → y < i → ¬ allFree (tkn s) y n) → ∃ r, Ev (fun k => spec_FindRun.p14 k s b n i) r ∧ IsFirst (tkn s) a b n r := by
    intro d
    induction d with
    | zero =>
      intro i hd hi hb hf
      refine ⟨-1, Ev.step (fun k => by rw [spec_FindRun.p14]) ?_, .inl ⟨rfl, fun y a0 a1 => hf y a0 (by omega)⟩⟩
      rw [w64 (x := i + n) (by omega) (by omega)]
      exact Ev.neg (by omega) (Ev.eq rfl)
    | succ d ih =>
      intro i hd hi hb hf
      by_cases c3 : i + n ≤ b
      · obtain ⟨q, hq, hqf⟩ := spec_l6Free_ev s i n hm (by omega) (by omega) (by omega)
        by_cases e : q = true
        · refine ⟨i, Ev.step (fun k => by rw [spec_FindRun.p14]) ?_, .inr ⟨hi, c3, hqf.1 e, hf⟩⟩
          rw [w64 (x := i + n) (by omega) (by omega)]
          exact Ev.pos c3 (Ev.bind hq (Ev.pos e (Ev.eq rfl)))
        · obtain ⟨r, hr, hF⟩ := ih (i + 1) (by omega) (by omega) (by omega) (fun y a0 a1 => by
            by_cases e2 : y = i
            · rw [e2]; exact fun h => e (hqf.2 h)
            · exact hf y a0 (by omega))
          refine ⟨r, Ev.step (fun k => by rw [spec_FindRun.p14]) ?_, hF⟩
          rw [w64 (x := i + n) (by omega) (by omega), w64 (x := i + 1) (by omega) (by omega)]
          exact Ev.pos c3 (Ev.bind hq (Ev.neg e hr))
      · refine ⟨-1, Ev.step (fun k => by rw [spec_FindRun.p14]) ?_, .inl ⟨rfl, fun y a0 a1 => hf y a0 (by omega)⟩⟩
        rw [w64 (x := i + n) (by omega) (by omega)]
        exact Ev.neg (by omega) (Ev.eq rfl)
  obtain ⟨r, hr, hF2⟩ := l _ a rfl (by omega) h1 (fun y a0 a1 => by omega)
  rw [IsFirst.unique h0 hF hF2]
  exact hr
end Go.Proofs.YtlljkankongifaaDoor.Abs.Pu
namespace Go.Proofs.YtlljkankongifaaDoor.Abs.Pu
open Go Go.RowKit
set_option linter.unusedVariables false
set_option linter.unusedSectionVars false
set_option linter.unusedSimpArgs false
def byte8 (u : Int) (i : Nat) : Int := u / 2 ^ (56 - 8 * i) % 256
def wordL (u : Int) : List Int := [byte8 u 0, byte8 u 1, byte8 u 2, byte8 u 3, byte8 u 4, byte8 u 5, byte8 u 6, byte8 u 7]
def wordB (n : Int) : ByteArray := strOfNums (wordL (IntKind.u64.wrap n))
theorem wordB_size (n : Int) : (wordB n).size = 8 := by rw [wordB, strOfNums_size]; rfl
theorem wordL_isBytes (u : Int) : isBytes (wordL u) := by
  intro x hx
  simp only [wordL, List.mem_cons, List.not_mem_nil, or_false, byte8] at hx
  omega
theorem wrap_u64 (x : Int) : IntKind.u64.wrap x = x % 18446744073709551616 := by
  simp [IntKind.wrap, IntKind.bits, IntKind.signed]
theorem wordv_wordB (n : Int) (h0 : -9223372036854775808 ≤ n) (h1 : n ≤ 9223372036854775807) : wordv (wordB n) 0 = n := by
  have hb : ∀ i, bt (wordB n) ((0 + i : Nat) : Int) = (wordL (IntKind.u64.wrap n)).getD i 0 := by
    intro i
    rw [bt_bytesOf, wordB, bytesOf_strOfNums (wordL_isBytes _), Nat.zero_add]
  unfold wordv
  simp only [hb]
  rw [wrap_u64]
  generalize hu : n % 18446744073709551616 = u
  have hu0 : 0 ≤ u ∧ u < 18446744073709551616 := by omega
  have e : be (fun i => (wordL u).getD i 0) 8 = u := by
    simp only [be, wordL, List.getD_cons_zero, List.getD_cons_succ, byte8]
    simp only [Nat.mul_zero, Nat.sub_zero, Nat.reduceMul, Nat.reduceSub, Int.reducePow, Int.pow_zero, Int.ediv_one]
    omega
  rw [e]
  unfold wrap64
  omega
/-- An image with other bytes from a place on. -/
def replB (s : ByteArray) (p : Nat) (t : ByteArray) : ByteArray := (s.extract 0 p ++ t) ++ s.extract (p + t.size) s.size
theorem repl_size {s t : ByteArray} {p : Nat} (h : p + t.size ≤ s.size) : (replB s p t).size = s.size := by
  simp only [replB, ByteArray.size_append, ByteArray.size_extract]
  omega
theorem bytesOf_append (s t : ByteArray) : bytesOf (s ++ t) = bytesOf s ++ bytesOf t := by
  unfold bytesOf
  rw [ByteArray.data_append, Array.toList_append, List.map_append]
theorem bytesOf_cut (s : ByteArray) (a b : Nat) : bytesOf (s.extract a b) = ((bytesOf s).drop a).take (b - a) := by
  unfold bytesOf
  rw [ByteArray.data_extract, Array.toList_extract, List.extract_eq_take_drop, List.map_take, List.map_drop]
theorem bytesOf_repl {s t : ByteArray} {p : Nat} (h : p + t.size ≤ s.size) : bytesOf (replB s p t) = (bytesOf s).take p ++ (bytesOf t ++ (bytesOf s).drop (p + t.size)) := by
  unfold replB
  rw [bytesOf_append, bytesOf_append, bytesOf_cut, bytesOf_cut, List.drop_zero, Nat.sub_zero, List.append_assoc]
  rw [List.take_of_length_le (l := (bytesOf s).drop (p + t.size)) (by rw [List.length_drop, bytesOf_length]; omega)]
theorem bt_repl {s t : ByteArray} {p : Nat} (h : p + t.size ≤ s.size) (i : Nat) : bt (replB s p t) (i : Int) = if p ≤ i ∧ i < p + t.size then bt t ((i - p : Nat) : Int) else bt s (i : Int) := by
  rw [bt_bytesOf, bt_bytesOf, bt_bytesOf, bytesOf_repl h]
  have hl := bytesOf_length s
  have ht := bytesOf_length t
  have htk : ((bytesOf s).take p).length = p := by rw [List.length_take]; omega
  simp only [List.getD_eq_getElem?_getD]
  by_cases c0 : i < p
  · rw [if_neg (by omega), List.getElem?_append_left (by omega), List.getElem?_take_of_lt c0]
  · rw [List.getElem?_append_right (by omega), htk]
    by_cases c1 : i < p + t.size
    · rw [if_pos (by omega), List.getElem?_append_left (by omega)]
    · rw [if_neg (by omega), List.getElem?_append_right (by omega), List.getElem?_drop, show p + t.size + (i - p - (bytesOf t).length) = i from by omega]
theorem wordv_repl_same {s : ByteArray} {p : Nat} (n : Int) (h : p + 8 ≤ s.size) (h0 : -9223372036854775808 ≤ n) (h1 : n ≤ 9223372036854775807) : wordv (replB s p (wordB n)) p = n := by
  have e := wordv_wordB n h0 h1
  have hz := wordB_size n
  unfold wordv at e ⊢
  refine Eq.trans (congrArg wrap64 (be_congr 8 (fun i hi => ?_))) e
  rw [bt_repl (by omega), if_pos (by omega), show p + i - p = 0 + i from by omega]
theorem wordv_repl_other {s t : ByteArray} {p q : Nat} (h : p + t.size ≤ s.size) (hd : q + 8 ≤ p ∨ p + t.size ≤ q) : wordv (replB s p t) q = wordv s q := by
  unfold wordv
  refine congrArg wrap64 (be_congr 8 (fun i hi => ?_))
  rw [bt_repl h, if_neg (by omega)]
theorem extract_ext {s t : ByteArray} {a b : Nat} (hs : b ≤ s.size) (ht : b ≤ t.size) (h : ∀ i : Nat, a ≤ i → i < b → bt s (i : Int) = bt t (i : Int)) : s.extract a b = t.extract a b := by
  refine bytesOf_inj ?_
  rw [bytesOf_cut, bytesOf_cut]
  refine List.ext_getElem (by simp only [List.length_take, List.length_drop, bytesOf_length]; omega) fun i h1 h2 => ?_
  simp only [List.length_take, List.length_drop, bytesOf_length] at h1 h2
  have hi := h (a + i) (by omega) (by omega)
  rw [bt_bytesOf, bt_bytesOf, List.getD_eq_getElem?_getD, List.getD_eq_getElem?_getD, List.getElem?_eq_getElem (by rw [bytesOf_length]; omega), List.getElem?_eq_getElem (by rw [bytesOf_length]; omega)] at hi
  simpa using hi
theorem wordv_range (s : ByteArray) (p : Nat) : -9223372036854775808 ≤ wordv s p ∧ wordv s p ≤ 9223372036854775807 := wrap64_range _
end Go.Proofs.YtlljkankongifaaDoor.Abs.Pu
namespace Go.Proofs.YtlljkankongifaaDoor.Abs
open Go Go.RowKit
set_option linter.unusedVariables false
set_option linter.unusedSectionVars false
set_option linter.unusedSimpArgs false

theorem rdOf_get {α : Type} {d : α} {l : List α} {i : Nat} (h : i < l.length) : rdOf d l (i : Int) = l[i] := by
  simp [rdOf, List.getD_eq_getElem?_getD, List.getElem?_eq_getElem h]

/-- The search: the first place where the test says yes, or -1. -/
theorem index_ev {α : Type} {d : α} {l : List α} (hl : l.length ≤ 1099511627776) {g : Nat → Int → Option Int} {t : Nat → α → Option Bool} {f : α → Bool}
    (hg : ∀ k (i : Int), g (k + 1) i = if i < (l.length : Int) then (if 0 ≤ i then (if i < (l.length : Int) then ((t k (rdOf d l i)).bind fun b => if b = true then some i else g k (wrap64 (i + 1))) else none) else none) else some (-1))
    (ht : ∀ x ∈ l, Ev (fun k => t k x) (f x)) : ∃ r, Ev (fun k => g k 0) r ∧ decide (r ≥ 0) = l.any f := by
  have lp : ∀ (m i : Nat), l.length - i = m → i ≤ l.length → ∃ r, Ev (fun k => g k (i : Int)) r ∧ decide (r ≥ 0) = (l.drop i).any f := by
    intro m
    induction m with
    | zero =>
      intro i hm hi
      rw [List.drop_eq_nil_of_le (by omega)]
      exact ⟨-1, Ev.step (fun k => by rw [hg]) (Ev.neg (by omega) (Ev.eq rfl)), by simp⟩
    | succ m ih =>
      intro i hm hi
      have hlt : i < l.length := by omega
      obtain ⟨r, hr, he⟩ := ih (i + 1) (by omega) (by omega)
      rw [List.drop_eq_getElem_cons hlt, List.any_cons]
      cases c : f l[i] with
      | true =>
        refine ⟨(i : Int), Ev.step (fun k => by rw [hg]) (Ev.pos (by omega) (Ev.pos (by omega) (Ev.pos (by omega) ?_))), by simp⟩
        rw [rdOf_get hlt]
        exact Ev.bind (ht _ (List.getElem_mem hlt)) (Ev.pos c (Ev.eq rfl))
      | false =>
        refine ⟨r, Ev.step (fun k => by rw [hg]) (Ev.pos (by omega) (Ev.pos (by omega) (Ev.pos (by omega) ?_))), by rw [he, Bool.false_or]⟩
        rw [rdOf_get hlt, show wrap64 ((i : Int) + 1) = ((i + 1 : Nat) : Int) from by rw [w64 (by omega) (by omega)]; omega]
        exact Ev.bind (ht _ (List.getElem_mem hlt)) (Ev.neg (by simp [c]) hr)
  obtain ⟨r, h1, h2⟩ := lp _ 0 rfl (Nat.zero_le _)
  exact ⟨r, h1, by rw [h2, List.drop_zero]⟩

/-- ContainsFunc. -/
theorem contains_ev {α : Type} {d : α} {l : List α} (hl : l.length ≤ 1099511627776) {g : Nat → Int → Option Int} {t : Nat → α → Option Bool} {f : α → Bool}
    (hg : ∀ k (i : Int), g (k + 1) i = if i < (l.length : Int) then (if 0 ≤ i then (if i < (l.length : Int) then ((t k (rdOf d l i)).bind fun b => if b = true then some i else g k (wrap64 (i + 1))) else none) else none) else some (-1))
    (ht : ∀ x ∈ l, Ev (fun k => t k x) (f x)) : Ev (fun k => (g k 0).bind fun t1 => some (decide (t1 ≥ 0))) (l.any f) := by
  obtain ⟨r, h1, h2⟩ := index_ev hl hg ht
  exact Ev.bind h1 (Ev.eq h2)
end Go.Proofs.YtlljkankongifaaDoor.Abs
namespace Go.Proofs.YtlljkankongifaaDoor.Abs
open Go Go.RowKit
set_option linter.unusedVariables false
set_option linter.unusedSectionVars false
set_option linter.unusedSimpArgs false
def kindsOk (l : List UInt8) : Bool := l.all fun b => [105, 114].contains b
def typeOk (s : ByteArray) : Bool := decide (1 ≤ s.size ∧ s.size ≤ 23) && kindsOk s.data.toList
def typesOk (l : List ByteArray) : Bool := decide (1 ≤ l.length ∧ l.length ≤ 12) && l.all typeOk
theorem dropWhile_all {p : UInt8 → Bool} : ∀ l : List UInt8, (∀ x ∈ l.dropWhile p, p x = true) → l.dropWhile p = []
  | [], _ => rfl
  | a :: l, h => by
    by_cases c : p a = true
    · rw [List.dropWhile_cons_of_pos c] at h ⊢
      exact dropWhile_all l h
    · rw [List.dropWhile_cons_of_neg c] at h
      exact absurd (h a (List.mem_cons_self ..)) c
theorem dropWhile_nil_iff {p : UInt8 → Bool} (l : List UInt8) : l.dropWhile p = [] ↔ ∀ x ∈ l, p x = true := by
  constructor
  · intro h
    induction l with
    | nil => simp
    | cons a l ih =>
      by_cases c : p a = true
      · rw [List.dropWhile_cons_of_pos c] at h
        intro x hx
        rcases List.mem_cons.1 hx with rfl | hx
        · exact c
        · exact ih h x hx
      · rw [List.dropWhile_cons_of_neg c] at h
        cases h
  · exact fun h => dropWhile_all l (fun x hx => h x ((List.dropWhile_sublist _).mem hx))
theorem trim_nil (l cs : List UInt8) : Lib.trimS l cs = [] ↔ ∀ x ∈ l, cs.contains x = true := by
  unfold Lib.trimS Lib.trimLeftS Lib.trimRightS
  rw [dropWhile_nil_iff]
  constructor
  · intro h
    have h1 := dropWhile_all (p := fun x => cs.contains x) l.reverse (fun x hx => h x (List.mem_reverse.2 hx))
    rw [dropWhile_nil_iff] at h1
    exact fun x hx => h1 x (List.mem_reverse.2 hx)
  · intro h x hx
    exact h x (List.mem_reverse.1 ((List.dropWhile_sublist _).mem (List.mem_reverse.1 hx)))
theorem isType_f (s : ByteArray) (hs : s.size ≤ 1048576) : impl_isType.f s = some (typeOk s) := by
  unfold impl_isType.f typeOk
  rw [within_f, Option.bind_some]
  by_cases c : 1 ≤ s.size ∧ s.size ≤ 23
  · rw [if_pos (by simp; omega), decide_eq_true c, Bool.true_and]
    have ht : strings_Trim.f s (⟨#[105, 114]⟩ : ByteArray) = some ⟨(Lib.trimS s.data.toList [105, 114]).toArray⟩ := by
      unfold strings_Trim.f
      rw [if_pos (by omega), if_pos (by decide), if_pos (by decide)]
    rw [ht, Option.bind_some]
    congr 1
    rw [Bool.eq_iff_iff, decide_eq_true_iff, ByteArray.toList_eq, ByteArray.toList_eq]
    show (Lib.trimS s.data.toList [105, 114]).toArray.toList = [] ↔ _
    rw [trim_nil, kindsOk, List.all_eq_true]
  · rw [if_neg (by simp; omega), decide_eq_false c, Bool.false_and]
theorem impl_TypesOk_ev (l : List ByteArray) (hs : ∀ x ∈ l, x.size ≤ 1048576) : Ev (fun k => impl_TypesOk.f k l) (typesOk l) := by
  have hany : l.length ≤ 12 → Ev (fun k => slices_ContainsFunc_string_at_impl_TypesOk_1.f k l) (l.any fun x => !typeOk x) := fun hl => by
    unfold slices_ContainsFunc_string_at_impl_TypesOk_1.f slices_IndexFunc_string_at_impl_TypesOk_1.f
    refine contains_ev (d := ByteArray.empty) (l := l) (by omega) (g := fun k i => slices_IndexFunc_string_at_impl_TypesOk_1.p6 k l (l.length : Int) i) (t := fun _ x => impl_TypesOk_1.f x) (f := fun x => !typeOk x) (fun k i => by rw [slices_IndexFunc_string_at_impl_TypesOk_1.p6]) (fun x hx => ?_)
    unfold impl_TypesOk_1.f
    exact Ev.bindo (isType_f x (hs x hx)) (Ev.eq rfl)
  unfold impl_TypesOk.f typesOk
  refine Ev.bindo rfl (Ev.bindo (within_f _ _ _) ?_)
  by_cases c : 1 ≤ l.length ∧ l.length ≤ 12
  · refine Ev.pos (by simp; omega) (Ev.bind (hany c.2) (Ev.eq ?_))
    rw [decide_eq_true c, Bool.true_and, List.any_eq_not_all_not]
    simp
  · refine Ev.neg (by simp; omega) (Ev.eq ?_)
    rw [decide_eq_false c, Bool.false_and]
theorem bt_get {s : ByteArray} {i : Nat} (h : i < s.data.toList.length) : bt s (i : Int) = (s.data.toList[i].toNat : Int) := by
  have h' : i < s.size := h
  rw [← bt_at s (i : Int) (by simpa using h')]
  simp [ByteArray.getElem_eq_getElem_data]
theorem l3Type_ev (s : ByteArray) (hs : s.size ≤ 1048576) : Ev (fun k => spec_l3Type.f k s) (typeOk s) := by
  have hlen : s.data.toList.length = s.size := rfl
  have lp : ∀ (d i : Nat), s.size - i = d → i ≤ s.size → Ev (fun k => spec_l3Type.p6 k s (i : Int)) (decide (1 ≤ s.size ∧ s.size ≤ 23) && kindsOk (s.data.toList.drop i)) := by
    intro d
    induction d with
    | zero =>
      intro i hd hi
      rw [List.drop_eq_nil_of_le (by omega)]
      refine Ev.step (fun k => by rw [spec_l3Type.p6]) (Ev.neg (by omega) (Ev.bindo (l1In_f _ _ _) (Ev.eq ?_)))
      simp only [kindsOk, List.all_nil, Bool.and_true]
      rw [Bool.eq_iff_iff]
      simp
      omega
    | succ d ih =>
      intro i hd hi
      have hlt : i < s.data.toList.length := by omega
      have ih := ih (i + 1) (by omega) (by omega)
      refine Ev.step (fun k => by rw [spec_l3Type.p6]) ?_
      rw [byteAt_eq, bt_get hlt, show wrap64 ((i : Int) + 1) = ((i + 1 : Nat) : Int) from by rw [w64 (by omega) (by omega)]; omega, List.drop_eq_getElem_cons hlt]
      generalize s.data.toList[i] = b at *
      have hb : kindsOk (b :: s.data.toList.drop (i + 1)) = ([105, 114].contains b && kindsOk (s.data.toList.drop (i + 1))) := rfl
      rw [hb]
      refine Ev.pos (by omega) (Ev.pos (by omega) (Ev.pos (by omega) (Ev.cases (fun c => ?_) (fun c => Ev.pos (by omega) (Ev.pos (by omega) (Ev.cases (fun c2 => ?_) (fun c2 => Ev.eq ?_)))))))
      · have e : b = 105 := UInt8.toNat_inj.1 (by show b.toNat = 105; omega)
        subst e
        rw [show [105, 114].contains (105 : UInt8) = true from rfl, Bool.true_and]
        exact ih
      · have e : b = 114 := UInt8.toNat_inj.1 (by show b.toNat = 114; omega)
        subst e
        rw [show [105, 114].contains (114 : UInt8) = true from rfl, Bool.true_and]
        exact ih
      · have e : [105, 114].contains b = false := by
          rw [Bool.eq_false_iff]
          intro h
          simp at h
          rcases h with h | h
          · subst h; exact c rfl
          · subst h; exact c2 rfl
        rw [e, Bool.false_and, Bool.and_false]
  unfold spec_l3Type.f typeOk
  have h := lp _ 0 rfl (by omega)
  rw [List.drop_zero] at h
  exact h
theorem spec_TypesOk_ev (l : List ByteArray) (hl : l.length ≤ 1048576) (hs : ∀ x ∈ l, x.size ≤ 1048576) : Ev (fun k => spec_TypesOk.f k l) (typesOk l) := by
  have lp : ∀ (d i : Nat), l.length - i = d → i ≤ l.length → Ev (fun k => spec_TypesOk.p14 k l (i : Int)) ((l.drop i).all typeOk) := by
    intro d
    induction d with
    | zero =>
      intro i hd hi
      rw [List.drop_eq_nil_of_le (by omega)]
      refine Ev.step (fun k => by rw [spec_TypesOk.p14]) ?_
      exact Ev.neg (by omega) (Ev.eq rfl)
    | succ d ih =>
      intro i hd hi
      have hlt : i < l.length := by omega
      have ih := ih (i + 1) (by omega) (by omega)
      refine Ev.step (fun k => by rw [spec_TypesOk.p14]) ?_
      rw [show rdOf ByteArray.empty l (i : Int) = l[i] from by simp [rdOf, List.getD_eq_getElem?_getD, List.getElem?_eq_getElem hlt], show wrap64 ((i : Int) + 1) = ((i + 1 : Nat) : Int) from by rw [w64 (by omega) (by omega)]; omega, List.drop_eq_getElem_cons hlt, List.all_cons]
      refine Ev.pos (by omega) (Ev.pos (by omega) (Ev.pos (by omega) (Ev.bind (l3Type_ev l[i] (hs _ (List.getElem_mem hlt))) (Ev.cases (fun c => ?_) (fun c => ?_)))))
      · rw [c, Bool.true_and]
        exact ih
      · rw [Bool.eq_false_iff.2 c, Bool.false_and]
        exact Ev.eq rfl
  unfold spec_TypesOk.f typesOk
  refine Ev.bindo (l1In_f _ _ _) ?_
  by_cases c : 1 ≤ l.length ∧ l.length ≤ 12
  · rw [decide_eq_true c, Bool.true_and]
    refine Ev.pos (by simp; omega) ?_
    have h := lp _ 0 rfl (by omega)
    rw [List.drop_zero] at h
    exact h
  · rw [decide_eq_false c, Bool.false_and]
    exact Ev.neg (by simp; omega) (Ev.eq rfl)
end Go.Proofs.YtlljkankongifaaDoor.Abs
namespace Go.Proofs.YtlljkankongifaaDoor.Abs.Pu
open Go Go.RowKit
set_option linter.unusedVariables false
set_option linter.unusedSectionVars false
set_option linter.unusedSimpArgs false
/-- An object of valid types, its references such that p holds. -/
def objW (p : Int → Bool) (types : List ByteArray) (o : Int × List Int) : Bool :=
  (decide (0 ≤ o.1) && decide (o.1 ≤ (types.length : Int) - 1)) && (decide (o.2.length = (rdOf ByteArray.empty types o.1).size) && refsB p (rdOf ByteArray.empty types o.1) 0 o.2)
theorem type_size {types : List ByteArray} (ht : typesOk types = true) (t : Int) : (rdOf ByteArray.empty types t).size ≤ 23 := by
  unfold typesOk at ht
  rw [Bool.and_eq_true, List.all_eq_true] at ht
  unfold rdOf
  by_cases h : t.toNat < types.length
  · have := ht.2 _ (List.getElem_mem h)
    rw [List.getD_eq_getElem?_getD, List.getElem?_eq_getElem h]
    unfold typeOk at this
    simp only [Bool.and_eq_true, decide_eq_true_eq] at this
    exact this.1.2
  · rw [List.getD_eq_getElem?_getD, List.getElem?_eq_none (by omega)]
    exact Nat.zero_le _
theorem types_len {types : List ByteArray} (ht : typesOk types = true) : 1 ≤ types.length ∧ types.length ≤ 12 := by
  unfold typesOk at ht
  rw [Bool.and_eq_true] at ht
  simpa using ht.1
end Go.Proofs.YtlljkankongifaaDoor.Abs.Pu
namespace Go.Proofs.YtlljkankongifaaDoor.Abs.Pu
open Go Go.RowKit
set_option linter.unusedVariables false
set_option linter.unusedSectionVars false
set_option linter.unusedSimpArgs false
/-- The bytes of words. -/
def WL : List Int → List Int
  | [] => []
  | n :: l => wordL (IntKind.u64.wrap n) ++ WL l
theorem wordL_length (u : Int) : (wordL u).length = 8 := rfl
theorem WL_length : ∀ l : List Int, (WL l).length = 8 * l.length
  | [] => rfl
  | n :: l => by rw [WL, List.length_append, wordL_length, WL_length l, List.length_cons]; omega
theorem WL_append : ∀ a b : List Int, WL (a ++ b) = WL a ++ WL b
  | [], _ => rfl
  | n :: a, b => by rw [List.cons_append, WL, WL, WL_append a b, List.append_assoc]
theorem WL_isBytes : ∀ l : List Int, isBytes (WL l)
  | [], x, hx => by cases hx
  | n :: l, x, hx => by
    rw [WL, List.mem_append] at hx
    rcases hx with hx | hx
    · exact wordL_isBytes _ x hx
    · exact WL_isBytes l x hx
theorem strOfNums_append (a b : List Int) : strOfNums (a ++ b) = strOfNums a ++ strOfNums b := by
  unfold strOfNums
  rw [List.map_append]
  apply ByteArray.ext
  rw [ByteArray.data_append]
  simp
theorem isBytes_append {a b : List Int} (ha : isBytes a) (hb : isBytes b) : isBytes (a ++ b) := fun x hx => by
  rcases List.mem_append.1 hx with hx | hx
  · exact ha x hx
  · exact hb x hx
/-- A word among words. -/
theorem wordv_WL (pre post z : List Int) (n : Int) (hz : isBytes z) (h0 : -9223372036854775808 ≤ n) (h1 : n ≤ 9223372036854775807) : wordv (strOfNums (WL (pre ++ n :: post) ++ z)) (8 * pre.length) = n := by
  have e := wordv_wordB n h0 h1
  unfold wordv at e ⊢
  refine Eq.trans (congrArg wrap64 (be_congr 8 (fun i hi => ?_))) e
  rw [bt_bytesOf, bt_bytesOf, bytesOf_strOfNums (isBytes_append (WL_isBytes _) hz), wordB, bytesOf_strOfNums (wordL_isBytes _), WL_append, WL, Nat.zero_add]
  simp only [List.getD_eq_getElem?_getD]
  rw [List.append_assoc, List.getElem?_append_right (by rw [WL_length]; omega), WL_length, show 8 * pre.length + i - 8 * pre.length = i from by omega, List.append_assoc, List.getElem?_append_left (by rw [wordL_length]; exact hi)]
/-- The lines of an object of a type. -/
def runL (types : List ByteArray) (t : Int) : Nat := ((rdOf ByteArray.empty types t).size + 8) / 8
def objB8 (types : List ByteArray) (o : Int × List Int) : ByteArray := strOfNums (WL ((o.1 + 1) :: o.2) ++ List.replicate (64 * runL types o.1 - 8 * (o.2.length + 1)) 0)
def okRef8 (x : Int) : Bool := true
theorem runL_bound {types : List ByteArray} (ht : typesOk types = true) (t : Int) : 1 ≤ runL types t ∧ runL types t ≤ 3 ∧ (rdOf ByteArray.empty types t).size + 1 ≤ 8 * runL types t := by
  have := type_size ht t
  unfold runL
  omega
theorem objB8_size {types : List ByteArray} {o : Int × List Int} (ht : typesOk types = true) (h : o.2.length = (rdOf ByteArray.empty types o.1).size) : (objB8 types o).size = 64 * runL types o.1 := by
  have := runL_bound ht o.1
  rw [objB8, strOfNums_size, List.length_append, WL_length, List.length_cons, List.length_replicate]
  omega
theorem objB8_head {types : List ByteArray} {o : Int × List Int} (h0 : 0 ≤ o.1) (h1 : o.1 ≤ 100) : wordv (objB8 types o) 0 = o.1 + 1 :=
  wordv_WL [] o.2 _ (o.1 + 1) (isBytes_replicate _) (by omega) (by omega)
theorem objB8_val {types : List ByteArray} {o : Int × List Int} (i : Nat) (h : i < o.2.length) (hi : ∀ x ∈ o.2, -9223372036854775808 ≤ x ∧ x ≤ 9223372036854775807) : wordv (objB8 types o) (8 + 8 * i) = o.2[i] := by
  have hx := hi _ (List.getElem_mem h)
  have hs : o.2 = o.2.take i ++ o.2[i] :: o.2.drop (i + 1) := by
    rw [← List.drop_eq_getElem_cons h, List.take_append_drop]
  have := wordv_WL ((o.1 + 1) :: o.2.take i) (o.2.drop (i + 1)) (List.replicate (64 * runL types o.1 - 8 * (o.2.length + 1)) 0) o.2[i] (isBytes_replicate _) hx.1 hx.2
  rw [List.cons_append, ← hs, List.length_cons, List.length_take, show 8 * (min i o.2.length + 1) = 8 + 8 * i from by omega] at this
  exact this
/-- The values that stand in bytes. -/
def valsOf (s : ByteArray) (n : Nat) : List Int := (List.range n).map fun i => wordv s (8 + 8 * i)
theorem valsOf_objB8 {types : List ByteArray} {o : Int × List Int} (hi : ∀ x ∈ o.2, -9223372036854775808 ≤ x ∧ x ≤ 9223372036854775807) : valsOf (objB8 types o) o.2.length = o.2 := by
  refine List.ext_getElem (by simp [valsOf]) (fun i h1 h2 => ?_)
  simp only [valsOf, List.getElem_map, List.getElem_range]
  exact objB8_val i h2 hi
end Go.Proofs.YtlljkankongifaaDoor.Abs.Pu
namespace Go.Proofs.YtlljkankongifaaDoor.Abs
open Go Go.RowKit
set_option linter.unusedVariables false
set_option linter.unusedSectionVars false
set_option linter.unusedSimpArgs false

def refk (a : Int) : Int := if a = 0 then 0 else if 2 ≤ a ∧ a ≤ 254 ∧ a % 2 = 0 then 1 else if 1 ≤ a ∧ a ≤ 799 ∧ a % 2 = 1 then 2 else -1
theorem refk_cases (a : Int) : refk a = 0 ∨ refk a = 1 ∨ refk a = 2 ∨ refk a = -1 := by
  unfold refk
  repeat' split
  all_goals simp
theorem tmod2 {a : Int} (h : 0 ≤ a) : Int.tmod a 2 = a % 2 := Int.tmod_eq_emod_of_nonneg h
theorem refKind_body (a : Int) (w : Int → Int → Int → Option Bool) (hw : ∀ a lo hi, w a lo hi = some (decide (lo ≤ a) && decide (a ≤ hi))) :
    (if a = 0 then (some 0) else ((w a 2 254).bind fun t1 => (if t1 = true then (if (Int.tmod a 2) = 0 then (some 1) else ((w a 1 799).bind fun t2 => (if t2 = true then (if (Int.tmod a 2) = 1 then (some 2) else (some (-1))) else (some (-1))))) else ((w a 1 799).bind fun t3 => (if t3 = true then (if (Int.tmod a 2) = 1 then (some 2) else (some (-1))) else (some (-1))))))) = some (refk a) := by
  simp only [hw, Option.bind_some, Bool.and_eq_true, decide_eq_true_eq]
  unfold refk
  by_cases ha : 0 ≤ a
  · simp only [tmod2 ha]
    (repeat' split) <;> first | rfl | (exfalso; omega)
  · (repeat' split) <;> first | rfl | (exfalso; omega)
theorem spec_RefKind_f (a : Int) : spec_RefKind.f a = some (refk a) := refKind_body a spec_l1In.f l1In_f
theorem impl_RefKind_f (a : Int) : impl_RefKind.f a = some (refk a) := refKind_body a impl_within.f within_f
end Go.Proofs.YtlljkankongifaaDoor.Abs
namespace Go.Proofs.YtlljkankongifaaDoor.Abs.Pu
open Go Go.RowKit
set_option linter.unusedVariables false
set_option linter.unusedSectionVars false
set_option linter.unusedSimpArgs false
def okRf (x : Int) : Bool := decide (refk x ≥ 0)
def objOk8 (types : List ByteArray) (o : Int × List Int) : Bool := typesOk types && objW okRf types o
def bytesR (types : List ByteArray) (o : Int × List Int) : ByteArray := if objOk8 types o = true then objB8 types o else ByteArray.empty
def readO (types : List ByteArray) (s : ByteArray) : Int × List Int := (wordv s 0 - 1, valsOf s (rdOf ByteArray.empty types (wordv s 0 - 1)).size)
def readR (types : List ByteArray) (s : ByteArray) : (Int × List Int) × Bool :=
  if typesOk types = true ∧ 64 ≤ s.size ∧ (1 ≤ wordv s 0 ∧ wordv s 0 ≤ types.length) ∧ s.size = 64 * runL types (wordv s 0 - 1) ∧ bytesR types (readO types s) = s then (readO types s, true) else ((0, []), false)
theorem objOk8_facts {types : List ByteArray} {o : Int × List Int} (h : objOk8 types o = true) : typesOk types = true ∧ 0 ≤ o.1 ∧ o.1 < types.length ∧ types.length ≤ 12 ∧ o.2.length = (rdOf ByteArray.empty types o.1).size ∧ o.2.length ≤ 23 ∧ refsB okRf (rdOf ByteArray.empty types o.1) 0 o.2 = true := by
  unfold objOk8 objW at h
  simp only [Bool.and_eq_true, decide_eq_true_eq] at h
  have := type_size h.1 o.1
  have := types_len h.1
  exact ⟨h.1, h.2.1.1, by omega, by omega, h.2.2.1, by omega, h.2.2.2⟩
theorem readR_yes {types : List ByteArray} {s : ByteArray} (h : (readR types s).2 = true) : (readR types s).1 = readO types s ∧ bytesR types (readO types s) = s ∧ objOk8 types (readO types s) = true ∧ s.size = 64 * runL types (wordv s 0 - 1) ∧ 64 ≤ s.size := by
  unfold readR at h ⊢
  split at h
  · rename_i c
    rw [if_pos c]
    refine ⟨rfl, c.2.2.2.2, ?_, c.2.2.2.1, c.2.1⟩
    by_cases e : objOk8 types (readO types s) = true
    · exact e
    · have h2 := c.2.2.2.2
      unfold bytesR at h2
      rw [if_neg e] at h2
      have h3 := c.2.1
      rw [← h2] at h3
      exact absurd h3 (by decide)
  · cases h
theorem readO_bytes {types : List ByteArray} {o : Int × List Int} (h : objOk8 types o = true) (hi : ∀ x ∈ o.2, -9223372036854775808 ≤ x ∧ x ≤ 9223372036854775807) : readO types (objB8 types o) = o ∧ wordv (objB8 types o) 0 = o.1 + 1 := by
  obtain ⟨ht, h0, h1, h2, h3, h4, h5⟩ := objOk8_facts h
  have hh := objB8_head (types := types) h0 (by omega)
  refine ⟨?_, hh⟩
  unfold readO
  rw [hh, show o.1 + 1 - 1 = o.1 from by omega, ← h3, valsOf_objB8 hi]
/-- What was written is read. -/
theorem readR_bytes {types : List ByteArray} {o : Int × List Int} (h : objOk8 types o = true) (hi : ∀ x ∈ o.2, -9223372036854775808 ≤ x ∧ x ≤ 9223372036854775807) : readR types (bytesR types o) = (o, true) := by
  obtain ⟨ht, h0, h1, h2, h3, h4, h5⟩ := objOk8_facts h
  obtain ⟨e1, e2⟩ := readO_bytes h hi
  have hz := objB8_size ht h3
  have hr := runL_bound ht o.1
  have hb : bytesR types o = objB8 types o := by unfold bytesR; rw [if_pos h]
  rw [hb]
  unfold readR
  rw [if_pos ⟨ht, by omega, by omega, by rw [e2, show o.1 + 1 - 1 = o.1 from by omega]; exact hz, by rw [e1]; exact hb⟩, e1]
theorem readR_none (types : List ByteArray) : readR types ByteArray.empty = ((0, []), false) := by
  unfold readR
  rw [if_neg (fun h => absurd h.2.1 (by decide))]
theorem readR_length (types : List ByteArray) (s : ByteArray) : (readR types s).1.2.length ≤ 23 := by
  by_cases h : (readR types s).2 = true
  · have h2 := readR_yes h
    rw [h2.1]
    exact (objOk8_facts h2.2.2.1).2.2.2.2.2.1
  · unfold readR at h ⊢
    split
    · rename_i c
      rw [if_pos c] at h
      exact absurd rfl h
    · exact Nat.zero_le _
end Go.Proofs.YtlljkankongifaaDoor.Abs.Pu
namespace Go.Proofs.YtlljkankongifaaDoor.Abs.Pu
open Go Go.RowKit
set_option linter.unusedVariables false
set_option linter.unusedSectionVars false
set_option linter.unusedSimpArgs false
theorem spec_WordBytes_ev (n : Int) : Ev (fun k => spec_WordBytes.f k n) (wordB n) := by
  have hu : 0 ≤ IntKind.u64.wrap n ∧ IntKind.u64.wrap n < 18446744073709551616 := by rw [wrap_u64]; omega
  have set1 : ∀ (u : Int) (i : Nat), i < 8 → ((wordL u).take i ++ List.replicate (8 - i) 0).set i (byte8 u i) = (wordL u).take (i + 1) ++ List.replicate (8 - (i + 1)) 0 := by
    intro u i hi
    obtain rfl | rfl | rfl | rfl | rfl | rfl | rfl | rfl : i = 0 ∨ i = 1 ∨ i = 2 ∨ i = 3 ∨ i = 4 ∨ i = 5 ∨ i = 6 ∨ i = 7 := by omega
    all_goals rfl
  have lp : ∀ (d i : Nat), 8 - i = d → i ≤ 8 → Ev (fun k => spec_WordBytes.p8 k n ((wordL (IntKind.u64.wrap n)).take i ++ List.replicate (8 - i) 0) (i : Int)) (wordB n) := by
    intro d
    induction d with
    | zero =>
      intro i hd hi
      obtain rfl : i = 8 := by omega
      refine Ev.step (fun k => by rw [spec_WordBytes.p8]) ?_
      refine Ev.neg (by decide) (Ev.eq ?_)
      rfl
    | succ d ih =>
      intro i hd hi
      have hi8 : i < 8 := by omega
      have hl : ((wordL (IntKind.u64.wrap n)).take i ++ List.replicate (8 - i) 0).length = 8 := by
        rw [List.length_append, List.length_take, List.length_replicate, show (wordL (IntKind.u64.wrap n)).length = 8 from rfl]; omega
      have ih := ih (i + 1) (by omega) (by omega)
      rw [← set1 _ i hi8] at ih
      refine Ev.step (fun k => by rw [spec_WordBytes.p8]) ?_
      rw [w64 (x := 8 * (i : Int)) (by omega) (by omega), w64 (x := 56 - 8 * (i : Int)) (by omega) (by omega), show IntKind.u64.wrap (56 - 8 * (i : Int)) = ((56 - 8 * i : Nat) : Int) from by rw [wrap_u64]; omega,
        show wrap64 ((i : Int) + 1) = ((i + 1 : Nat) : Int) from by rw [w64 (by omega) (by omega)]; omega, Int.toNat_natCast,
        show shrA .u64 (IntKind.u64.wrap n) ((56 - 8 * i : Nat) : Int) % 256 = byte8 (IntKind.u64.wrap n) i from by
          unfold shrA byte8
          rw [Int.toNat_natCast, show min (56 - 8 * i) IntKind.u64.bits = 56 - 8 * i from Nat.min_eq_left (by show 56 - 8 * i ≤ 64; omega)]]
      exact Ev.pos (by omega) (Ev.neg (by omega) (Ev.pos (by omega) (Ev.pos (by rw [hl]; omega) ih)))
  unfold spec_WordBytes.f
  exact lp 8 0 rfl (by omega)
theorem impl_bigBytes_ev (u : Int) (h0 : 0 ≤ u) : Ev (fun k => impl_bigBytes.f k u 8) (strOfNums (wordL u)) := by
  have set1 : ∀ (i : Nat), i < 8 → (List.replicate (8 - i) 0 ++ (wordL u).drop (8 - i)).set (7 - i) (byte8 u (7 - i)) = List.replicate (8 - (i + 1)) 0 ++ (wordL u).drop (8 - (i + 1)) := by
    intro i hi
    obtain rfl | rfl | rfl | rfl | rfl | rfl | rfl | rfl : i = 0 ∨ i = 1 ∨ i = 2 ∨ i = 3 ∨ i = 4 ∨ i = 5 ∨ i = 6 ∨ i = 7 := by omega
    all_goals rfl
  have lp : ∀ (d i : Nat), 8 - i = d → i ≤ 8 → Ev (fun k => impl_bigBytes.p8 k (u / 2 ^ (8 * i)) 8 (List.replicate (8 - i) 0 ++ (wordL u).drop (8 - i)) 8 (i : Int)) (strOfNums (wordL u)) := by
    intro d
    induction d with
    | zero =>
      intro i hd hi
      obtain rfl : i = 8 := by omega
      refine Ev.step (fun k => by rw [impl_bigBytes.p8]) ?_
      refine Ev.neg (by decide) (Ev.eq ?_)
      rfl
    | succ d ih =>
      intro i hd hi
      have hi8 : i < 8 := by omega
      have hl : (List.replicate (8 - i) 0 ++ (wordL u).drop (8 - i)).length = 8 := by
        rw [List.length_append, List.length_drop, List.length_replicate, show (wordL u).length = 8 from rfl]; omega
      have ih := ih (i + 1) (by omega) (by omega)
      rw [← set1 i hi8] at ih
      refine Ev.step (fun k => by rw [impl_bigBytes.p8]) ?_
      rw [w64 (x := 8 - 1) (by omega) (by omega), w64 (x := 8 - 1 - (i : Int)) (by omega) (by omega), show (8 - 1 - (i : Int)) = ((7 - i : Nat) : Int) from by omega,
        show wrap64 ((i : Int) + 1) = ((i + 1 : Nat) : Int) from by rw [w64 (by omega) (by omega)]; omega, Int.toNat_natCast,
        show u / 2 ^ (8 * i) % 256 = byte8 u (7 - i) from by unfold byte8; rw [show 56 - 8 * (7 - i) = 8 * i from by omega],
        show shrA .u64 (u / 2 ^ (8 * i)) 8 = u / 2 ^ (8 * (i + 1)) from by
          show u / 2 ^ (8 * i) / 2 ^ 8 = _
          rw [Int.ediv_ediv_of_nonneg (Int.pow_nonneg (by decide)), show (8 * (i + 1)) = 8 * i + 8 from by omega, Int.pow_add]]
      exact Ev.pos (by omega) (Ev.pos (by omega) (Ev.pos (by rw [hl]; omega) ih))
  unfold impl_bigBytes.f
  refine Ev.pos (by decide) (Ev.pos (by decide) ?_)
  have h := lp 8 0 rfl (by omega)
  rw [Nat.mul_zero, Int.pow_zero, Int.ediv_one] at h
  exact h
theorem impl_WordBytes_ev (n : Int) : Ev (fun k => impl_WordBytes.f k n) (wordB n) := by
  unfold impl_WordBytes.f
  exact Ev.bind (impl_bigBytes_ev _ (by rw [wrap_u64]; omega)) (Ev.eq rfl)
end Go.Proofs.YtlljkankongifaaDoor.Abs.Pu
namespace Go.Proofs.YtlljkankongifaaDoor.Abs.Pu
open Go Go.RowKit
set_option linter.unusedVariables false
set_option linter.unusedSectionVars false
set_option linter.unusedSimpArgs false
def okRef (x : Int) : Bool := decide (refk x ≥ 0)
def objOkB (types : List ByteArray) (o : Int × List Int) : Bool := typesOk types && objW okRef types o
theorem impl_ObjOk_ev (types : List ByteArray) (o : Int × List Int) (hs : ∀ x ∈ types, x.size ≤ 1048576) : Ev (fun k => impl_ObjOk.f k types o.1 o.2) (objOkB types o) := by
  unfold impl_ObjOk.f objOkB
  refine Ev.bind (impl_TypesOk_ev types hs) (Ev.cases (fun ht => ?_) (fun ht => by rw [Bool.eq_false_iff.2 ht, Bool.false_and]; exact Ev.eq rfl))
  rw [ht, Bool.true_and]
  have htl := types_len ht
  have hts := type_size ht o.1
  refine Ev.bind (a := objW okRef types o) ?_ (Ev.eq rfl)
  unfold impl_isObject_at_impl_ObjOk_1.f impl_size_string.f objW
  refine Ev.bindo rfl (Ev.bindo (within_f _ _ _) ?_)
  rw [w64 (x := (types.length : Int) - 1) (by omega) (by omega)]
  refine Ev.cases (fun c => ?_) (fun c => ?_)
  · rw [c, Bool.true_and]
    simp only [Bool.and_eq_true, decide_eq_true_eq] at c
    refine Ev.pos c.1 (Ev.pos (by omega) ?_)
    by_cases c2 : o.2.length = (rdOf ByteArray.empty types o.1).size
    · rw [decide_eq_true c2, Bool.true_and]
      refine Ev.pos (by omega) ?_
      refine refs_ev (g := fun k i => impl_isObject_at_impl_ObjOk_1.p14 k types o.1 o.2 o.2 (o.2.length : Int) i) (t := fun _ x => impl_ObjOk_1.f x) c.1 (by omega) c2 (by omega) (fun k i => by rw [impl_isObject_at_impl_ObjOk_1.p14]) (fun x _ => ?_)
      unfold impl_ObjOk_1.f
      exact Ev.bindo (impl_RefKind_f x) (Ev.eq rfl)
    · rw [decide_eq_false c2, Bool.false_and]
      exact Ev.neg (by omega) (Ev.eq rfl)
  · rw [Bool.eq_false_iff.2 c, Bool.false_and]
    exact Ev.eq rfl
theorem spec_ObjOk_ev (types : List ByteArray) (o : Int × List Int) (hl : types.length ≤ 1048576) (hs : ∀ x ∈ types, x.size ≤ 1048576) : Ev (fun k => spec_ObjOk.f k types o.1 o.2) (objOkB types o) := by
  unfold spec_ObjOk.f objOkB
  refine Ev.bind (spec_TypesOk_ev types hl hs) (Ev.cases (fun ht => ?_) (fun ht => by rw [Bool.eq_false_iff.2 ht, Bool.false_and]; exact Ev.eq rfl))
  rw [ht, Bool.true_and]
  have htl := types_len ht
  have hts := type_size ht o.1
  unfold objW
  rw [w64 (x := (types.length : Int) - 1) (by omega) (by omega)]
  refine Ev.bindo (l1In_f _ _ _) (Ev.cases (fun c => ?_) (fun c => by rw [Bool.eq_false_iff.2 c, Bool.false_and]; exact Ev.eq rfl))
  rw [c, Bool.true_and]
  simp only [Bool.and_eq_true, decide_eq_true_eq] at c
  obtain ⟨tp, vals⟩ := o
  simp only [] at *
  refine Ev.pos c.1 (Ev.pos (by omega) ?_)
  by_cases c2 : vals.length = (rdOf ByteArray.empty types tp).size
  rotate_left
  · rw [decide_eq_false c2, Bool.false_and]
    exact Ev.neg (by omega) (Ev.eq rfl)
  rw [decide_eq_true c2, Bool.true_and]
  refine Ev.pos (by omega) ?_
  have key : ∀ i, i ≤ vals.length → Ev (fun k => spec_ObjOk.p14 k types tp vals (i : Int)) (refsB okRef (rdOf ByteArray.empty types tp) i (vals.drop i)) := by
    refine down ?_ ?_
    · rw [List.drop_eq_nil_of_le (Nat.le_refl _)]
      refine Ev.step (fun k => by rw [spec_ObjOk.p14]) ?_
      exact Ev.neg (by omega) (Ev.eq rfl)
    · intro i hi ih
      refine Ev.step (fun k => by rw [spec_ObjOk.p14]) ?_
      rw [rd_get hi, w64s (by omega), List.drop_eq_getElem_cons hi, refsB]
      refine Ev.pos (by omega) (Ev.pos c.1 (Ev.pos (by omega) (Ev.pos (by omega) (Ev.pos (by omega) ?_))))
      by_cases c3 : bt (rdOf ByteArray.empty types tp) (i : Int) = 114
      · rw [if_pos c3]
        refine Ev.pos c3 (Ev.pos (by omega) (Ev.pos (by omega) (Ev.bindo (spec_RefKind_f _) ?_)))
        by_cases c4 : refk vals[i] < 0
        · rw [show okRef vals[i] = false from decide_eq_false (by omega), Bool.false_and]
          exact Ev.pos c4 (Ev.eq rfl)
        · rw [show okRef vals[i] = true from decide_eq_true (by omega), Bool.true_and]
          exact Ev.neg c4 ih
      · rw [if_neg c3]
        exact Ev.neg c3 ih
  have h := key 0 (Nat.zero_le _)
  rw [List.drop_zero] at h
  exact h
end Go.Proofs.YtlljkankongifaaDoor.Abs.Pu
namespace Go.Proofs.YtlljkankongifaaDoor.Abs.Pu
open Go Go.RowKit
set_option linter.unusedVariables false
set_option linter.unusedSectionVars false
set_option linter.unusedSimpArgs false
theorem bt_byte (s : ByteArray) : ∀ p i : Nat, 0 ≤ bt s ((p + i : Nat) : Int) ∧ bt s ((p + i : Nat) : Int) ≤ 255 := fun p i => bt_range s _
theorem spec_ReadWord_ev (s : ByteArray) (h : s.size = 8) : Ev (fun k => spec_ReadWord.f k s) (wordv s 0, true) := by
  have key : ∀ i, i ≤ 8 → Ev (fun k => spec_ReadWord.p16 k s (be (fun i => bt s ((0 + i : Nat) : Int)) i) (i : Int)) (wordv s 0, true) := by
    refine down ?_ ?_
    · refine Ev.step (fun k => by rw [spec_ReadWord.p16]) ?_
      exact Ev.neg (by omega) (Ev.eq rfl)
    · intro i hi ih
      refine Ev.step (fun k => by rw [spec_ReadWord.p16]) ?_
      refine Ev.pos (by omega) (Ev.pos (by omega) (Ev.pos (by omega) ?_))
      have e := be_step_u64 (fun i => bt s ((0 + i : Nat) : Int)) (fun i => bt_byte s 0 i) i (by omega)
      simp only [Nat.zero_add] at e ih ⊢
      rw [byteAt_eq, orA_eq, shl8_u64, e, w64s (i := i) (by omega)]
      exact ih
  unfold spec_ReadWord.f
  exact Ev.pos (by omega) (key 0 (by omega))
theorem impl_wordAt_ev (s : ByteArray) (p : Nat) (h : p + 8 ≤ s.size) (hs : s.size ≤ 140737488355328) : Ev (fun k => impl_wordAt.f k s (p : Int)) (wordv s p) := by
  have key : ∀ i, i ≤ 8 → Ev (fun k => impl_wordAt.p8 k s (p : Int) (wrap64 (be (fun i => bt s ((p + i : Nat) : Int)) i)) (i : Int)) (wordv s p) := by
    refine down ?_ ?_
    · refine Ev.step (fun k => by rw [impl_wordAt.p8]) ?_
      exact Ev.neg (by omega) (Ev.eq rfl)
    · intro i hi ih
      refine Ev.step (fun k => by rw [impl_wordAt.p8]) ?_
      rw [show wrap64 ((p : Int) + (i : Int)) = ((p + i : Nat) : Int) from by rw [w64 (by omega) (by omega)]; omega]
      refine Ev.pos (by omega) (Ev.pos (by omega) (Ev.pos (by omega) ?_))
      have e := be_step_i64 (fun i => bt s ((p + i : Nat) : Int)) (fun i => bt_byte s p i) i
      rw [byteAt_eq, orA_eq, shl8_i64, e, w64s (i := i) (by omega)]
      exact ih
  unfold impl_wordAt.f
  have h := key 0 (by omega)
  rwa [show wrap64 (be (fun i => bt s ((p + i : Nat) : Int)) 0) = 0 from by simp only [be]; exact w64 (by omega) (by omega)] at h
theorem wordv_extract (s : ByteArray) (p : Nat) (h : p + 8 ≤ s.size) : wordv (s.extract p (p + 8)) 0 = wordv s p := by
  unfold wordv
  refine congrArg wrap64 (be_congr 8 (fun i hi => ?_))
  rw [Nat.zero_add]
  exact bt_extract s p (p + 8) i (by omega) h
end Go.Proofs.YtlljkankongifaaDoor.Abs.Pu
namespace Go.Proofs.YtlljkankongifaaDoor.Abs.Pu
open Go Go.RowKit
set_option linter.unusedVariables false
set_option linter.unusedSectionVars false
set_option linter.unusedSimpArgs false
theorem objOk8_eq (types : List ByteArray) (o : Int × List Int) : objOkB types o = objOk8 types o := rfl
theorem type_at {types : List ByteArray} (ht : typesOk types = true) {t : Int} (h0 : 0 ≤ t) (h1 : t < types.length) : typeOk (rdOf ByteArray.empty types t) = true := by
  unfold typesOk at ht
  rw [Bool.and_eq_true, List.all_eq_true] at ht
  have h : t.toNat < types.length := by omega
  have e := rdg (d := ByteArray.empty) h
  rw [Int.toNat_of_nonneg h0] at e
  rw [e]
  exact ht.2 _ (List.getElem_mem h)
theorem spec_RunOf_ev {types : List ByteArray} (ht : typesOk types = true) {t : Int} (h0 : 0 ≤ t) (h1 : t < types.length) : Ev (fun k => spec_RunOf.f k (rdOf ByteArray.empty types t)) (runL types t : Int) := by
  have hz := type_size ht t
  unfold spec_RunOf.f
  refine Ev.bind (l3Type_ev _ (by omega)) (Ev.pos (type_at ht h0 h1) (Ev.eq ?_))
  unfold runL
  rw [w64 (x := 1 + ((rdOf ByteArray.empty types t).size : Int)) (by omega) (by omega), w64 (x := 1 + ((rdOf ByteArray.empty types t).size : Int) + 7) (by omega) (by omega), Int.tdiv_eq_ediv_of_nonneg (by omega), w64 (by omega) (by omega)]
  omega
theorem impl_runOf_f {types : List ByteArray} (ht : typesOk types = true) (t : Int) : impl_runOf.f (rdOf ByteArray.empty types t) = some (runL types t : Int) := by
  have hz := type_size ht t
  unfold impl_runOf.f runL
  rw [w64 (x := ((rdOf ByteArray.empty types t).size : Int) + 8) (by omega) (by omega), Int.tdiv_eq_ediv_of_nonneg (by omega), w64 (by omega) (by omega)]
  refine congrArg some ?_
  omega
def SB (l : List Int) : ByteArray := strOfNums (WL l)
theorem SB_size (l : List Int) : (SB l).size = 8 * l.length := by rw [SB, strOfNums_size, WL_length]
theorem SB_snoc (l : List Int) (n : Int) : SB (l ++ [n]) = SB l ++ wordB n := by
  unfold SB wordB
  rw [WL_append, strOfNums_append, WL, WL, List.append_nil]
theorem SB_one (n : Int) : wordB n = SB [n] := by
  unfold SB wordB
  rw [WL, WL, List.append_nil]
theorem objB8_eq (types : List ByteArray) (o : Int × List Int) : objB8 types o = SB ((o.1 + 1) :: o.2) ++ zerosB (64 * runL types o.1 - 8 * (o.2.length + 1)) := by
  unfold objB8 SB zerosB
  rw [strOfNums_append]
theorem spec_ObjectBytes_ev (types : List ByteArray) (o : Int × List Int) (hl : types.length ≤ 1048576) (hs : ∀ x ∈ types, x.size ≤ 1048576) : Ev (fun k => spec_ObjectBytes.f k types o.1 o.2) (bytesR types o) := by
  unfold spec_ObjectBytes.f bytesR
  refine Ev.bind (spec_ObjOk_ev types o hl hs) ?_
  rw [objOk8_eq]
  by_cases c : objOk8 types o = true
  rotate_left
  · rw [if_neg c]; exact Ev.neg c (Ev.eq rfl)
  rw [if_pos c]
  refine Ev.pos c ?_
  obtain ⟨ht, h0, h1, h2, h3, h4, h5⟩ := objOk8_facts c
  have hr := runL_bound ht o.1
  rw [w64 (x := o.1 + 1) (by omega) (by omega)]
  refine Ev.bind (spec_WordBytes_ev (o.1 + 1)) ?_
  rw [SB_one, objB8_eq]
  obtain ⟨tp, vals⟩ := o
  simp only [] at *
  have hrun := spec_RunOf_ev ht h0 h1
  have key : ∀ i, i ≤ vals.length → Ev (fun k => spec_ObjectBytes.p16 k types tp vals (SB ((tp + 1) :: vals.take i)) (i : Int)) (SB ((tp + 1) :: vals) ++ zerosB (64 * runL types tp - 8 * (vals.length + 1))) := by
    refine down ?_ ?_
    · refine Ev.step (fun k => by rw [spec_ObjectBytes.p16]) ?_
      rw [List.take_of_length_le (Nat.le_refl _)]
      have hz := SB_size ((tp + 1) :: vals)
      rw [List.length_cons] at hz
      have hzz := spec_l1Zeros_f (64 * runL types tp - 8 * (vals.length + 1)) (by omega)
      have hzs := zerosB_size (64 * runL types tp - 8 * (vals.length + 1))
      refine Ev.neg (by omega) (Ev.pos h0 (Ev.pos h1 (Ev.bind hrun ?_)))
      rw [w64 (x := 64 * (runL types tp : Int)) (by omega) (by omega), w64 (x := 64 * (runL types tp : Int) - ((SB ((tp + 1) :: vals)).size : Int)) (by omega) (by omega), show 64 * (runL types tp : Int) - ((SB ((tp + 1) :: vals)).size : Int) = ((64 * runL types tp - 8 * (vals.length + 1) : Nat) : Int) from by omega]
      exact Ev.bindo hzz (Ev.pos (by omega) (Ev.eq rfl))
    · intro i hi ih
      refine Ev.step (fun k => by rw [spec_ObjectBytes.p16]) ?_
      rw [rd_get hi, w64s (i := i) (by omega)]
      rw [take_snoc2 vals i hi, ← List.cons_append, SB_snoc] at ih
      have hz := SB_size ((tp + 1) :: vals.take i)
      rw [List.length_cons, List.length_take] at hz
      have hz2 := wordB_size vals[i]
      exact Ev.pos (by omega) (Ev.pos (by omega) (Ev.pos (by omega) (Ev.bind (spec_WordBytes_ev _) (Ev.pos (by omega) ih))))
  exact key 0 (Nat.zero_le _)
theorem impl_ObjectBytes_ev (types : List ByteArray) (o : Int × List Int) (hs : ∀ x ∈ types, x.size ≤ 1048576) : Ev (fun k => impl_ObjectBytes.f k types o.1 o.2) (bytesR types o) := by
  unfold impl_ObjectBytes.f bytesR
  refine Ev.bind (impl_ObjOk_ev types o hs) ?_
  rw [objOk8_eq]
  by_cases c : objOk8 types o = true
  rotate_left
  · rw [if_neg c]; exact Ev.neg c (Ev.eq rfl)
  rw [if_pos c]
  refine Ev.pos c (Ev.bind (a := objB8 types o) ?_ (Ev.eq rfl))
  obtain ⟨ht, h0, h1, h2, h3, h4, h5⟩ := objOk8_facts c
  have hr := runL_bound ht o.1
  unfold impl_objectBytes.f
  rw [w64 (x := o.1 + 1) (by omega) (by omega)]
  refine Ev.bind (impl_WordBytes_ev (o.1 + 1)) ?_
  rw [SB_one, objB8_eq]
  obtain ⟨tp, vals⟩ := o
  simp only [] at *
  have hrun := impl_runOf_f ht tp
  have key : ∀ i, i ≤ vals.length → Ev (fun k => impl_objectBytes.p8 k types tp vals (SB ((tp + 1) :: vals.take i)) vals (vals.length : Int) (i : Int)) (SB ((tp + 1) :: vals) ++ zerosB (64 * runL types tp - 8 * (vals.length + 1))) := by
    refine down ?_ ?_
    · refine Ev.step (fun k => by rw [impl_objectBytes.p8]) ?_
      rw [List.take_of_length_le (Nat.le_refl _)]
      have hz := SB_size ((tp + 1) :: vals)
      rw [List.length_cons] at hz
      have hzz := impl_zeros_f (64 * runL types tp - 8 * (vals.length + 1)) (by omega)
      have hzs := zerosB_size (64 * runL types tp - 8 * (vals.length + 1))
      refine Ev.neg (by omega) (Ev.pos h0 (Ev.pos h1 (Ev.bindo hrun ?_)))
      rw [w64 (x := 64 * (runL types tp : Int)) (by omega) (by omega), w64 (x := 64 * (runL types tp : Int) - ((SB ((tp + 1) :: vals)).size : Int)) (by omega) (by omega), show 64 * (runL types tp : Int) - ((SB ((tp + 1) :: vals)).size : Int) = ((64 * runL types tp - 8 * (vals.length + 1) : Nat) : Int) from by omega]
      exact Ev.bindo hzz (Ev.pos (by omega) (Ev.eq rfl))
    · intro i hi ih
      refine Ev.step (fun k => by rw [impl_objectBytes.p8]) ?_
      rw [rd_get hi, w64s (i := i) (by omega)]
      rw [take_snoc2 vals i hi, ← List.cons_append, SB_snoc] at ih
      have hz := SB_size ((tp + 1) :: vals.take i)
      rw [List.length_cons, List.length_take] at hz
      have hz2 := wordB_size vals[i]
      exact Ev.pos (by omega) (Ev.pos (by omega) (Ev.pos (by omega) (Ev.bind (impl_WordBytes_ev _) (Ev.pos (by omega) ih))))
  exact key 0 (Nat.zero_le _)
theorem valsOf_length (s : ByteArray) (n : Nat) : (valsOf s n).length = n := by simp [valsOf]
theorem valsOf_get (s : ByteArray) (n i : Nat) (h : i < (valsOf s n).length) : (valsOf s n)[i] = wordv s (8 + 8 * i) := by simp [valsOf]
theorem readR_no {types : List ByteArray} {s : ByteArray} (h : ¬ (typesOk types = true ∧ 64 ≤ s.size ∧ (1 ≤ wordv s 0 ∧ wordv s 0 ≤ types.length) ∧ s.size = 64 * runL types (wordv s 0 - 1) ∧ bytesR types (readO types s) = s)) : readR types s = ((0, []), false) := by
  unfold readR
  rw [if_neg h]
def out3 (r : (Int × List Int) × Bool) : Int × List Int × Bool := (r.1.1, r.1.2, r.2)
theorem spec_ReadObject_ev (types : List ByteArray) (s : ByteArray) (hl : types.length ≤ 1048576) (hs : ∀ x ∈ types, x.size ≤ 1048576) (hz : s.size ≤ 140737488355328) : Ev (fun k => spec_ReadObject.f k types s) (out3 (readR types s)) := by
  have bad : ∀ b, b = true → readR types s = ((0, []), false) → Ev (fun k => spec_ReadObject.p5 k types s 0 b) (out3 (readR types s)) := by
    intro b hb h
    refine Ev.step (fun k => by rw [spec_ReadObject.p5]) ?_
    rw [hb, h]
    exact Ev.pos rfl (Ev.eq rfl)
  unfold spec_ReadObject.f
  refine Ev.bind (spec_TypesOk_ev types hl hs) (Ev.cases (fun ht => ?_) (fun ht => bad _ rfl (readR_no (fun h => ht h.1))))
  have htl := types_len ht
  by_cases c : 64 ≤ s.size
  rotate_left
  · exact bad _ (decide_eq_true (by omega)) (readR_no (fun h => c h.2.1))
  rw [decide_eq_false (by omega)]
  refine Ev.step (fun k => by rw [spec_ReadObject.p5]) ?_
  refine Ev.neg (by simp) (Ev.pos (by omega) (Ev.bind (spec_ReadWord_ev _ (by rw [ByteArray.size_extract]; omega)) ?_))
  have hw := wordv_extract s 0 (by omega)
  rw [Nat.zero_add] at hw
  rw [hw]
  simp only []
  refine Ev.bindo (l1In_f _ _ _) (Ev.cases (fun c1 => ?_) (fun c1 => ?_))
  rotate_left
  · rw [readR_no (fun h => c1 (by simp; exact h.2.2.1))]
    exact Ev.eq rfl
  simp only [Bool.and_eq_true, decide_eq_true_eq] at c1
  have hb := runL_bound ht (wordv s 0 - 1)
  have hts := type_size ht (wordv s 0 - 1)
  rw [w64 (x := wordv s 0 - 1) (by omega) (by omega)]
  refine Ev.pos (by omega) (Ev.pos (by omega) (Ev.bind (spec_RunOf_ev ht (by omega) (by omega)) ?_))
  rw [w64 (x := 64 * (runL types (wordv s 0 - 1) : Int)) (by omega) (by omega)]
  by_cases c2 : s.size = 64 * runL types (wordv s 0 - 1)
  rotate_left
  · rw [readR_no (fun h => c2 h.2.2.2.1)]
    exact Ev.neg (by omega) (Ev.eq rfl)
  refine Ev.pos (by omega) ?_
  have hO := spec_ObjectBytes_ev types (readO types s) hl hs
  have key : ∀ i, i ≤ (rdOf ByteArray.empty types (wordv s 0 - 1)).size → Ev (fun k => spec_ReadObject.p26 k types s 0 (wordv s 0) (wordv s 0 - 1) ((valsOf s (rdOf ByteArray.empty types (wordv s 0 - 1)).size).take i) (i : Int)) (out3 (readR types s)) := by
    have hvl := valsOf_length s (rdOf ByteArray.empty types (wordv s 0 - 1)).size
    have hvg := valsOf_get s (rdOf ByteArray.empty types (wordv s 0 - 1)).size
    refine down ?_ ?_
    · refine Ev.step (fun k => by rw [spec_ReadObject.p26]) ?_
      rw [w64 (x := wordv s 0 - 1) (by omega) (by omega), List.take_of_length_le (by omega)]
      refine Ev.pos (by omega) (Ev.pos (by omega) (Ev.neg (by omega) (Ev.bind hO ?_)))
      by_cases c3 : bytesR types (readO types s) = s
      · refine Ev.pos (toList_inj.2 c3) (Ev.eq ?_)
        unfold readR
        rw [if_pos ⟨ht, c, c1, c2, c3⟩]
        rfl
      · rw [readR_no (fun h => c3 h.2.2.2.2)]
        exact Ev.neg (fun h => c3 (toList_inj.1 h)) (Ev.eq rfl)
    · intro i hi ih
      have hi2 : i < (valsOf s (rdOf ByteArray.empty types (wordv s 0 - 1)).size).length := by omega
      refine Ev.step (fun k => by rw [spec_ReadObject.p26]) ?_
      rw [take_snoc2 _ i hi2, hvg i hi2] at ih
      have hle : ((valsOf s (rdOf ByteArray.empty types (wordv s 0 - 1)).size).take i).length + 1 ≤ 17592186044416 := by rw [List.length_take]; omega
      generalize (valsOf s (rdOf ByteArray.empty types (wordv s 0 - 1)).size).take i = V at *
      rw [w64 (x := wordv s 0 - 1) (by omega) (by omega), w64s (i := i) (by omega), w64 (x := 8 * (i : Int)) (by omega) (by omega), w64 (x := 16 + 8 * (i : Int)) (by omega) (by omega), w64 (x := 8 + 8 * (i : Int)) (by omega) (by omega)]
      rw [show (8 + 8 * (i : Int)).toNat = 8 + 8 * i from by omega, show (16 + 8 * (i : Int)).toNat = 8 + 8 * i + 8 from by omega]
      refine Ev.pos (by omega) (Ev.pos (by omega) (Ev.pos (by omega) (Ev.pos (by omega) (Ev.pos (by omega) (Ev.pos (by omega) (Ev.pos (by omega) (Ev.bind (spec_ReadWord_ev _ (by rw [ByteArray.size_extract]; omega)) (Ev.pos hle ?_))))))))
      rw [wordv_extract s (8 + 8 * i) (by omega)]
      exact ih
  exact key 0 (Nat.zero_le _)
theorem impl_objectOf_ev {types : List ByteArray} (ht : typesOk types = true) {t : Int} (h0 : 0 ≤ t) (h1 : t < types.length) (s : ByteArray) (hs : s.size = 64 * runL types t) : Ev (fun k => impl_objectOf.f k types t s) (t, valsOf s (rdOf ByteArray.empty types t).size) := by
  have hb := runL_bound ht t
  have hts := type_size ht t
  have hvl := valsOf_length s (rdOf ByteArray.empty types t).size
  have hvg := valsOf_get s (rdOf ByteArray.empty types t).size
  have key : ∀ i, i ≤ (rdOf ByteArray.empty types t).size → Ev (fun k => impl_objectOf.p8 k s 0 t ((valsOf s (rdOf ByteArray.empty types t).size).take i) ((rdOf ByteArray.empty types t).size : Int) (i : Int)) (t, valsOf s (rdOf ByteArray.empty types t).size) := by
    refine down ?_ ?_
    · refine Ev.step (fun k => by rw [impl_objectOf.p8]) ?_
      rw [List.take_of_length_le (by omega)]
      exact Ev.neg (by omega) (Ev.eq rfl)
    · intro i hi ih
      have hi2 : i < (valsOf s (rdOf ByteArray.empty types t).size).length := by omega
      refine Ev.step (fun k => by rw [impl_objectOf.p8]) ?_
      rw [take_snoc2 _ i hi2, hvg i hi2] at ih
      have hle : ((valsOf s (rdOf ByteArray.empty types t).size).take i).length + 1 ≤ 17592186044416 := by rw [List.length_take]; omega
      rw [w64s (i := i) (by omega), w64 (x := 8 * (i : Int)) (by omega) (by omega), w64 (x := 8 + 8 * (i : Int)) (by omega) (by omega), show 8 + 8 * (i : Int) = ((8 + 8 * i : Nat) : Int) from by omega]
      exact Ev.pos (by omega) (Ev.bind (impl_wordAt_ev s (8 + 8 * i) (by omega) (by omega)) (Ev.pos hle ih))
  unfold impl_objectOf.f
  exact Ev.pos h0 (Ev.pos h1 (key 0 (Nat.zero_le _)))
theorem impl_ReadObject_ev (types : List ByteArray) (s : ByteArray) (hs : ∀ x ∈ types, x.size ≤ 1048576) (hz : s.size ≤ 140737488355328) : Ev (fun k => impl_ReadObject.f k types s) (out3 (readR types s)) := by
  have bad : ∀ b, b = true → readR types s = ((0, []), false) → Ev (fun k => impl_ReadObject.p5 k types s 0 b) (out3 (readR types s)) := by
    intro b hb h
    refine Ev.step (fun k => by rw [impl_ReadObject.p5]) ?_
    rw [hb, h]
    exact Ev.pos rfl (Ev.eq rfl)
  unfold impl_ReadObject.f
  refine Ev.bind (impl_TypesOk_ev types hs) (Ev.cases (fun ht => ?_) (fun ht => bad _ rfl (readR_no (fun h => ht h.1))))
  have htl := types_len ht
  by_cases c : 8 ≤ s.size
  rotate_left
  · exact bad _ (decide_eq_true (by omega)) (readR_no (fun h => by have := h.2.1; omega))
  rw [decide_eq_false (by omega)]
  refine Ev.step (fun k => by rw [impl_ReadObject.p5]) ?_
  refine Ev.neg (by simp) (Ev.bind (impl_wordAt_ev s 0 (by omega) hz) (Ev.bindo rfl (Ev.bindo (within_f _ _ _) ?_)))
  have bad2 : ∀ b, b = true → readR types s = ((0, []), false) → Ev (fun k => impl_ReadObject.p15 k types s 0 (wordv s 0) b) (out3 (readR types s)) := by
    intro b hb h
    refine Ev.step (fun k => by rw [impl_ReadObject.p15]) ?_
    rw [hb, h]
    exact Ev.pos rfl (Ev.eq rfl)
  refine Ev.cases (fun c1 => ?_) (fun c1 => bad2 _ rfl (readR_no (fun h => c1 (by simp; exact h.2.2.1))))
  simp only [Bool.and_eq_true, decide_eq_true_eq] at c1
  have hb := runL_bound ht (wordv s 0 - 1)
  have hts := type_size ht (wordv s 0 - 1)
  rw [w64 (x := wordv s 0 - 1) (by omega) (by omega)]
  refine Ev.pos (by omega) (Ev.pos (by omega) (Ev.bindo (impl_runOf_f ht _) ?_))
  rw [w64 (x := 64 * (runL types (wordv s 0 - 1) : Int)) (by omega) (by omega)]
  by_cases c2 : s.size = 64 * runL types (wordv s 0 - 1)
  rotate_left
  · exact bad2 _ (by rw [decide_eq_false (by omega)]; rfl) (readR_no (fun h => c2 h.2.2.2.1))
  rw [decide_eq_true (by omega)]
  refine Ev.step (fun k => by rw [impl_ReadObject.p15]) ?_
  rw [w64 (x := wordv s 0 - 1) (by omega) (by omega)]
  have hO := impl_ObjectBytes_ev types (readO types s) hs
  refine Ev.neg (by simp) (Ev.bind (impl_objectOf_ev ht (by omega) (by omega) s c2) (Ev.bind hO ?_))
  by_cases c3 : bytesR types (readO types s) = s
  · refine Ev.pos (toList_inj.2 c3) (Ev.eq ?_)
    unfold readR
    rw [if_pos ⟨ht, by omega, c1, c2, c3⟩]
    rfl
  · rw [readR_no (fun h => c3 h.2.2.2.2)]
    exact Ev.neg (fun h => c3 (toList_inj.1 h)) (Ev.eq rfl)
end Go.Proofs.YtlljkankongifaaDoor.Abs.Pu
namespace Go.Proofs.YtlljkankongifaaDoor.Abs.Pu
open Go Go.RowKit
set_option linter.unusedVariables false
set_option linter.unusedSectionVars false
set_option linter.unusedSimpArgs false
abbrev Cfg := Int × Int × Int × List ByteArray
def configOk (c : Cfg) : Bool := (decide (8 ≤ c.1) && decide (c.1 ≤ 128)) && ((decide (1 ≤ c.2.1) && decide (c.2.1 ≤ 32 ∧ c.2.1 ≤ c.1 - 5)) && ((decide (2 ≤ c.2.2.1) && decide (c.2.2.1 ≤ 400)) && typesOk c.2.2.2))
theorem impl_ConfigOk_ev (c : Cfg) (hs : ∀ x ∈ c.2.2.2, x.size ≤ 1048576) : Ev (fun k => impl_ConfigOk.f k c.1 c.2.1 c.2.2.1 c.2.2.2) (configOk c) := by
  unfold impl_ConfigOk.f configOk
  refine Ev.bindo (within_f _ _ _) (Ev.cases (fun h => ?_) (fun h => by rw [Bool.eq_false_iff.2 h, Bool.false_and]; exact Ev.eq rfl))
  rw [h, Bool.true_and]
  simp only [Bool.and_eq_true, decide_eq_true_eq] at h
  rw [w64 (x := c.1 - 5) (by omega) (by omega)]
  have e : (decide (1 ≤ c.2.1) && decide (c.2.1 ≤ (if c.1 - 5 < 32 then c.1 - 5 else 32))) = (decide (1 ≤ c.2.1) && decide (c.2.1 ≤ 32 ∧ c.2.1 ≤ c.1 - 5)) := by
    congr 1
    rw [decide_eq_decide]
    split <;> omega
  refine Ev.bindo (within_f _ _ _) ?_
  rw [e]
  refine Ev.cases (fun h2 => ?_) (fun h2 => by rw [Bool.eq_false_iff.2 h2, Bool.false_and]; exact Ev.eq rfl)
  rw [h2, Bool.true_and]
  refine Ev.bindo (within_f _ _ _) (Ev.cases (fun h3 => ?_) (fun h3 => by rw [Bool.eq_false_iff.2 h3, Bool.false_and]; exact Ev.eq rfl))
  rw [h3, Bool.true_and]
  exact Ev.bind (impl_TypesOk_ev _ hs) (Ev.eq rfl)
theorem spec_ConfigOk_ev (c : Cfg) (hl : c.2.2.2.length ≤ 1048576) (hs : ∀ x ∈ c.2.2.2, x.size ≤ 1048576) : Ev (fun k => spec_ConfigOk.f k c.1 c.2.1 c.2.2.1 c.2.2.2) (configOk c) := by
  unfold spec_ConfigOk.f configOk
  refine Ev.bindo (l1In_f _ _ _) (Ev.cases (fun h => ?_) (fun h => by rw [Bool.eq_false_iff.2 h, Bool.false_and]; exact Ev.eq rfl))
  rw [h, Bool.true_and]
  simp only [Bool.and_eq_true, decide_eq_true_eq] at h
  rw [w64 (x := c.1 - 5) (by omega) (by omega)]
  refine Ev.bindo (l1In_f _ _ _) (Ev.cases (fun h2 => ?_) (fun h2 => ?_))
  · simp only [Bool.and_eq_true, decide_eq_true_eq] at h2
    refine Ev.cases (fun h4 => ?_) (fun h4 => ?_)
    · rw [decide_eq_true h2.1, decide_eq_true (show c.2.1 ≤ 32 ∧ c.2.1 ≤ c.1 - 5 from ⟨h2.2, h4⟩), Bool.true_and, Bool.true_and]
      refine Ev.bindo (l1In_f _ _ _) (Ev.cases (fun h3 => ?_) (fun h3 => by rw [Bool.eq_false_iff.2 h3, Bool.false_and]; exact Ev.eq rfl))
      rw [h3, Bool.true_and]
      exact Ev.bind (spec_TypesOk_ev _ hl hs) (Ev.eq rfl)
    · rw [decide_eq_false (show ¬ (c.2.1 ≤ 32 ∧ c.2.1 ≤ c.1 - 5) from fun h => h4 h.2), Bool.and_false, Bool.false_and]
      exact Ev.eq rfl
  · have : (decide (1 ≤ c.2.1) && decide (c.2.1 ≤ 32 ∧ c.2.1 ≤ c.1 - 5)) = false := by
      rw [Bool.eq_false_iff]
      intro h3
      apply h2
      simp only [Bool.and_eq_true, decide_eq_true_eq] at h3 ⊢
      omega
    rw [this, Bool.false_and]
    exact Ev.eq rfl
theorem configOk_facts {c : Cfg} (h : configOk c = true) : 8 ≤ c.1 ∧ c.1 ≤ 128 ∧ 1 ≤ c.2.1 ∧ c.2.1 ≤ 32 ∧ c.2.1 ≤ c.1 - 5 ∧ 2 ≤ c.2.2.1 ∧ c.2.2.1 ≤ 400 ∧ typesOk c.2.2.2 = true := by
  unfold configOk at h
  simp only [Bool.and_eq_true, decide_eq_true_eq] at h
  exact ⟨h.1.1, h.1.2, h.2.1.1, h.2.1.2.1, h.2.1.2.2, h.2.2.1.1, h.2.2.1.2, h.2.2.2⟩
end Go.Proofs.YtlljkankongifaaDoor.Abs.Pu
namespace Go.Proofs.YtlljkankongifaaDoor.Abs.Pu
open Go Go.RowKit
set_option linter.unusedVariables false
set_option linter.unusedSectionVars false
set_option linter.unusedSimpArgs false
def planF (c : Cfg) : List Int → ByteArray → List Int → Option (List Int × ByteArray)
  | [], m, out => some (out, m)
  | t :: ts, m, out =>
    if findRun m (4 + c.2.1) c.1 (runL c.2.2.2 t) < 0 then none else planF c ts (changed m true (findRun m (4 + c.2.1) c.1 (runL c.2.2.2 t)).toNat (runL c.2.2.2 t)) (out ++ [findRun m (4 + c.2.1) c.1 (runL c.2.2.2 t)])
def isTy (c : Cfg) (t : Int) : Bool := decide (0 ≤ t) && decide (t ≤ (c.2.2.2.length : Int) - 1)
def fin2 : Option (List Int × ByteArray) → List Int × ByteArray × Bool
  | some (l, m) => (l, m, true)
  | none => ([], ⟨#[]⟩, false)
/-- A run that is found. -/
theorem find_yes {c : Cfg} {m : ByteArray} {n : Nat} (hc : configOk c = true) (hm : mapOk m) (hn : 1 ≤ n ∧ n ≤ 3) (h : ¬ findRun m (4 + c.2.1) c.1 n < 0) : ∃ x : Nat, findRun m (4 + c.2.1) c.1 n = (x : Int) ∧ 4 + c.2.1 ≤ x ∧ (x : Int) + n ≤ c.1 ∧ x + n ≤ 128 ∧ (∀ j : Nat, x ≤ j → j < x + n → tkn m (j : Int) = false) ∧ mapOk (changed m true x n) ∧ strOfNums (turnL (bytesOf m) x n) = changed m true x n := by
  have hf := configOk_facts hc
  have hF := findRun_first (s := m) (a := 4 + c.2.1) (b := c.1) (n := n) ⟨hm, by omega, by omega, by omega⟩ (by omega)
  rcases hF with ⟨e, _⟩ | ⟨h1, h2, h3, _⟩
  · omega
  · obtain ⟨x, hx⟩ := Int.eq_ofNat_of_zero_le (show 0 ≤ findRun m (4 + c.2.1) c.1 n by omega)
    have hx : findRun m (4 + c.2.1) c.1 n = (x : Int) := hx
    rw [hx] at h1 h2 h3
    have hfree : ∀ j : Nat, x ≤ j → j < x + n → tkn m (j : Int) = false := fun j a0 a1 => h3 j (by omega) (by omega)
    exact ⟨x, hx, h1, h2, by omega, hfree, (changed_map hm x n true (by omega)).1, turned_is hm (by omega) hfree⟩
theorem impl_planned_ev (c : Cfg) (m : ByteArray) (types : List Int) (hc : configOk c = true) (hm : mapOk m) (hall : ∀ t ∈ types, isTy c t = true) (hl : types.length ≤ 1048576) : Ev (fun k => impl_planned.f k c.1 c.2.1 c.2.2.1 c.2.2.2 m types) (fin2 (planF c types m [])) := by
  have hf := configOk_facts hc
  have ht := hf.2.2.2.2.2.2.2
  have key : ∀ (l : List Int) (q : Nat) (m : ByteArray) (out : List Int), q ≤ types.length → l = types.drop q → out.length = q → mapOk m → (∀ t ∈ l, isTy c t = true) → Ev (fun k => impl_planned.p8 k m c.1 c.2.1 c.2.2.1 c.2.2.2 out types (types.length : Int) (q : Int)) (fin2 (planF c l m out)) := by
    intro l
    induction l with
    | nil =>
      intro q m out hq hl' ho hm hd
      have hqe : q = types.length := by
        have := congrArg List.length hl'
        rw [List.length_nil, List.length_drop] at this
        omega
      refine Ev.step (fun k => by rw [impl_planned.p8]) ?_
      exact Ev.neg (by omega) (Ev.eq rfl)
    | cons t l ihl =>
      intro q m out hq hl' ho hm hd
      have hq2 : q < types.length := by
        have := congrArg List.length hl'
        rw [List.length_cons, List.length_drop] at this
        omega
      rw [List.drop_eq_getElem_cons hq2] at hl'
      injection hl' with hv1 hl1
      have ht1 := hd t (by simp)
      unfold isTy at ht1
      simp only [Bool.and_eq_true, decide_eq_true_eq] at ht1
      have hb := runL_bound ht t
      refine Ev.step (fun k => by rw [impl_planned.p8]) ?_
      rw [rd_get hq2, ← hv1, w64s (i := q) (by omega), w64 (x := 4 + c.2.1) (by omega) (by omega), planF]
      refine Ev.pos (by omega) (Ev.pos (by omega) (Ev.pos (by omega) (Ev.pos (by omega) (Ev.pos (by omega) (Ev.bindo (impl_runOf_f ht t) (Ev.bind (impl_FindRun_ev m _ _ _) ?_))))))
      by_cases c1 : findRun m (4 + c.2.1) c.1 (runL c.2.2.2 t) < 0
      · rw [if_pos c1]
        exact Ev.pos c1 (Ev.eq rfl)
      · rw [if_neg c1]
        obtain ⟨x, hx, h1, h2, h3, h4, h5, h6⟩ := find_yes hc hm (by omega) c1
        refine Ev.neg c1 ?_
        rw [hx, Int.toNat_natCast]
        have hms := hm.1
        exact Ev.bind (changedMap_ev m x _ (by omega) (by omega)) (Ev.pos (by omega) (ihl (q + 1) _ _ (by omega) hl1 (by simp [ho]) h5 (fun y hy => hd y (List.mem_cons_of_mem _ hy))))
  unfold impl_planned.f
  exact key types 0 m [] (by omega) rfl rfl hm hall
theorem spec_l10Plan_ev (c : Cfg) (m : ByteArray) (types : List Int) (hc : configOk c = true) (hm : mapOk m) (hall : ∀ t ∈ types, isTy c t = true) (hl : types.length ≤ 1048576) : Ev (fun k => spec_l10Plan.f k c.1 c.2.1 c.2.2.1 c.2.2.2 m types) (fin2 (planF c types m [])) := by
  have hf := configOk_facts hc
  have ht := hf.2.2.2.2.2.2.2
  have key : ∀ (l : List Int) (q : Nat) (m : ByteArray) (out : List Int), q ≤ types.length → l = types.drop q → out.length = q → mapOk m → (∀ t ∈ l, isTy c t = true) → Ev (fun k => spec_l10Plan.p8 k m types c.1 c.2.1 c.2.2.1 c.2.2.2 out (q : Int)) (fin2 (planF c l m out)) := by
    intro l
    induction l with
    | nil =>
      intro q m out hq hl' ho hm hd
      have hqe : q = types.length := by
        have := congrArg List.length hl'
        rw [List.length_nil, List.length_drop] at this
        omega
      refine Ev.step (fun k => by rw [spec_l10Plan.p8]) ?_
      exact Ev.neg (by omega) (Ev.eq rfl)
    | cons t l ihl =>
      intro q m out hq hl' ho hm hd
      have hq2 : q < types.length := by
        have := congrArg List.length hl'
        rw [List.length_cons, List.length_drop] at this
        omega
      rw [List.drop_eq_getElem_cons hq2] at hl'
      injection hl' with hv1 hl1
      have ht1 := hd t (by simp)
      unfold isTy at ht1
      simp only [Bool.and_eq_true, decide_eq_true_eq] at ht1
      have hb := runL_bound ht t
      refine Ev.step (fun k => by rw [spec_l10Plan.p8]) ?_
      rw [rd_get hq2, ← hv1, w64s (i := q) (by omega), w64 (x := 4 + c.2.1) (by omega) (by omega), planF]
      refine Ev.pos (by omega) (Ev.pos (by omega) (Ev.pos (by omega) (Ev.pos (by omega) (Ev.pos (by omega) (Ev.bind (spec_RunOf_ev ht (by omega) (by omega)) (Ev.bind (spec_FindRun_ev m _ _ _) ?_))))))
      by_cases c1 : findRun m (4 + c.2.1) c.1 (runL c.2.2.2 t) < 0
      · rw [if_pos c1]
        exact Ev.pos c1 (Ev.eq rfl)
      · rw [if_neg c1]
        obtain ⟨x, hx, h1, h2, h3, h4, h5, h6⟩ := find_yes hc hm (by omega) c1
        refine Ev.neg c1 ?_
        rw [hx, Int.toNat_natCast]
        have hms := hm.1
        have hT := l6Turn_ev m x (runL c.2.2.2 t) (by omega) (by omega)
        rw [h6] at hT
        exact Ev.bind hT (Ev.pos (by omega) (ihl (q + 1) _ _ (by omega) hl1 (by simp [ho]) h5 (fun y hy => hd y (List.mem_cons_of_mem _ hy))))
  unfold spec_l10Plan.f
  exact key types 0 m [] (by omega) rfl rfl hm hall
def plannedR (c : Cfg) (m : ByteArray) (types : List Int) : List Int × Bool :=
  if configOk c = true ∧ mapOk m ∧ types.length ≤ 400 ∧ types.all (isTy c) = true then ((fin2 (planF c types m [])).1, (fin2 (planF c types m [])).2.2) else ([], false)
theorem planF_length (c : Cfg) : ∀ (ts : List Int) (m : ByteArray) (out : List Int) {l m'}, planF c ts m out = some (l, m') → l.length = out.length + ts.length
  | [], m, out, l, m', h => by
    rw [planF] at h
    injection h with h
    injection h with h1 h2
    rw [← h1]; rfl
  | t :: ts, m, out, l, m', h => by
    rw [planF] at h
    split at h
    · cases h
    · rw [planF_length c ts _ _ h, List.length_append, List.length_singleton, List.length_cons]
      omega
theorem plannedR_length (c : Cfg) (m : ByteArray) (types : List Int) : (plannedR c m types).1.length ≤ 400 := by
  unfold plannedR
  split
  · rename_i h
    cases h2 : planF c types m [] with
    | none => exact Nat.zero_le _
    | some r =>
      have := planF_length c types m [] (l := r.1) (m' := r.2) h2
      show r.1.length ≤ 400
      rw [this]
      have := h.2.2.1
      simp only [List.length_nil]; omega
  · exact Nat.zero_le _
theorem impl_Planned_ev (c : Cfg) (m : ByteArray) (types : List Int) (hs : ∀ x ∈ c.2.2.2, x.size ≤ 1048576) (hl : types.length ≤ 1048576) : Ev (fun k => impl_Planned.f k c.1 c.2.1 c.2.2.1 c.2.2.2 m types) (plannedR c m types) := by
  unfold impl_Planned.f plannedR
  refine Ev.bind (impl_ConfigOk_ev c hs) (Ev.cases (fun hc => ?_) (fun hc => by rw [if_neg (fun h => hc h.1)]; exact Ev.eq rfl))
  have hf := configOk_facts hc
  have ht := hf.2.2.2.2.2.2.2
  have htl := types_len ht
  refine Ev.bindo (impl_isMap_f m) (Ev.cases (fun hm => ?_) (fun hm => by rw [if_neg (fun h => hm (decide_eq_true h.2.1))]; exact Ev.eq rfl))
  have hm : mapOk m := of_decide_eq_true hm
  by_cases k : types.length ≤ 400
  rotate_left
  · rw [if_neg (fun h => k h.2.2.1)]
    exact Ev.pos (by omega) (Ev.eq rfl)
  refine Ev.neg (by omega) ?_
  have hany : Ev (fun k => slices_ContainsFunc_int64_at_impl_Planned_1.f k types (c.1, (c.2.1, (c.2.2.1, c.2.2.2)))) (types.any fun x => !isTy c x) := by
    unfold slices_ContainsFunc_int64_at_impl_Planned_1.f slices_IndexFunc_int64_at_impl_Planned_1.f
    refine contains_ev (d := 0) (l := types) (by omega) (g := fun k i => slices_IndexFunc_int64_at_impl_Planned_1.p6 k types (c.1, (c.2.1, (c.2.2.1, c.2.2.2))) (types.length : Int) i) (t := fun _ x => impl_Planned_1.f x (c.1, (c.2.1, (c.2.2.1, c.2.2.2)))) (f := fun x => !isTy c x) (fun k i => by rw [slices_IndexFunc_int64_at_impl_Planned_1.p6]; rfl) (fun x hx => ?_)
    unfold impl_Planned_1.f impl_size_string.f isTy
    refine Ev.bindo rfl ?_
    simp only []
    rw [w64 (x := (c.2.2.2.length : Int) - 1) (by omega) (by omega)]
    exact Ev.bindo (within_f _ _ _) (Ev.eq rfl)
  refine Ev.bind hany ?_
  by_cases h2 : types.all (isTy c) = true
  rotate_left
  · rw [if_neg (fun h => h2 h.2.2.2)]
    refine Ev.pos ?_ (Ev.eq rfl)
    rw [List.all_eq_not_any_not] at h2
    simpa using h2
  rw [if_pos ⟨hc, hm, k, h2⟩]
  have h3 := List.all_eq_true.1 h2
  refine Ev.neg (by rw [List.all_eq_not_any_not] at h2; simpa using h2) (Ev.bind (impl_planned_ev c m types hc hm h3 hl) (Ev.eq rfl))
theorem spec_Planned_ev (c : Cfg) (m : ByteArray) (types : List Int) (hcl : c.2.2.2.length ≤ 1048576) (hs : ∀ x ∈ c.2.2.2, x.size ≤ 1048576) (hl : types.length ≤ 1048576) : Ev (fun k => spec_Planned.f k c.1 c.2.1 c.2.2.1 c.2.2.2 m types) (plannedR c m types) := by
  unfold spec_Planned.f plannedR
  refine Ev.bind (spec_ConfigOk_ev c hcl hs) (Ev.cases (fun hc => ?_) (fun hc => by rw [if_neg (fun h => hc h.1)]; exact Ev.eq rfl))
  have hf := configOk_facts hc
  have ht := hf.2.2.2.2.2.2.2
  have htl := types_len ht
  refine Ev.bindo (spec_l6Map_f m) (Ev.cases (fun hm => ?_) (fun hm => by rw [if_neg (fun h => hm (decide_eq_true h.2.1))]; exact Ev.eq rfl))
  have hm : mapOk m := of_decide_eq_true hm
  by_cases k : types.length ≤ 400
  rotate_left
  · rw [if_neg (fun h => k h.2.2.1)]
    exact Ev.pos (by omega) (Ev.eq rfl)
  refine Ev.neg (by omega) ?_
  have key : ∀ i, i ≤ types.length → (∀ t ∈ types.take i, isTy c t = true) → Ev (fun k => spec_Planned.p14 k m types c.1 c.2.1 c.2.2.1 c.2.2.2 (i : Int)) (if configOk c = true ∧ mapOk m ∧ types.length ≤ 400 ∧ types.all (isTy c) = true then ((fin2 (planF c types m [])).1, (fin2 (planF c types m [])).2.2) else ([], false)) := by
    refine down ?_ ?_
    · intro h
      rw [List.take_of_length_le (Nat.le_refl _)] at h
      rw [if_pos ⟨hc, hm, k, List.all_eq_true.2 h⟩]
      refine Ev.step (fun k => by rw [spec_Planned.p14]) ?_
      exact Ev.neg (by omega) (Ev.bind (spec_l10Plan_ev c m types hc hm h hl) (Ev.eq rfl))
    · intro i hi ih h
      refine Ev.step (fun k => by rw [spec_Planned.p14]) ?_
      rw [rd_get hi, w64s (i := i) (by omega), w64 (x := (c.2.2.2.length : Int) - 1) (by omega) (by omega)]
      refine Ev.pos (by omega) (Ev.pos (by omega) (Ev.pos (by omega) (Ev.bindo (l1In_f _ _ _) (Ev.cases (fun c3 => ih (fun t h2 => ?_)) (fun c3 => ?_)))))
      · rw [take_snoc2 types i hi, List.mem_append, List.mem_singleton] at h2
        rcases h2 with h2 | rfl
        · exact h t h2
        · exact c3
      · rw [if_neg (fun h => c3 (show isTy c types[i] = true from List.all_eq_true.1 h.2.2.2 _ (List.getElem_mem hi)))]
        exact Ev.eq rfl
  exact key 0 (Nat.zero_le _) (by simp)
end Go.Proofs.YtlljkankongifaaDoor.Abs.Pu
namespace Go.Proofs.YtlljkankongifaaDoor.Abs.Pu
open Go Go.RowKit
set_option linter.unusedVariables false
set_option linter.unusedSectionVars false
set_option linter.unusedSimpArgs false
theorem sameInts_ev (l : List Int) (hl : l.length ≤ 1099511627776) : Ev (fun k => laws_sameInts.f k l l) true := by
  have lp : ∀ (d i : Nat), l.length - i = d → i ≤ l.length → Ev (fun k => laws_sameInts.p14 k l l (i : Int)) true := by
    intro d
    induction d with
    | zero =>
      intro i hd hi
      exact Ev.step (fun k => by rw [laws_sameInts.p14]) (Ev.neg (by omega) (Ev.eq rfl))
    | succ d ih =>
      intro i hd hi
      refine Ev.step (fun k => by rw [laws_sameInts.p14]) ?_
      rw [show wrap64 ((i : Int) + 1) = ((i + 1 : Nat) : Int) from by rw [w64 (by omega) (by omega)]; omega]
      exact Ev.pos (by omega) (Ev.pos (by omega) (Ev.pos (by omega) (Ev.pos (by omega) (Ev.pos (by omega) (Ev.pos rfl (ih (i + 1) (by omega) (by omega)))))))
  unfold laws_sameInts.f
  exact Ev.pos rfl (lp _ 0 rfl (by omega))
end Go.Proofs.YtlljkankongifaaDoor.Abs.Pu
namespace Go.Proofs.YtlljkankongifaaDoor.Abs.Pu
open Go Go.RowKit
set_option linter.unusedVariables false
set_option linter.unusedSectionVars false
set_option linter.unusedSimpArgs false
theorem drawPlanned_ev {l : List Int} (hb : isBytes l) (hl : l.length ≤ 1099511627776) : ∃ (c : Cfg) (m : ByteArray) (ts : List Int), Ev (fun k => spec_DrawPlanned.f k l) (c.1, c.2.1, c.2.2.1, c.2.2.2, m, ts) ∧ c.2.2.2.length ≤ 100 ∧ (∀ x ∈ c.2.2.2, x.size ≤ 100) ∧ ts.length ≤ 100 := by
  obtain ⟨a, b, y, types, q, e, h1, h2, h3, hq⟩ := config_ev (Rd.start hb hl)
  obtain ⟨m, q2, e2, hm, hq2⟩ := aMap_ev hq
  obtain ⟨o, q3, e3, hq3⟩ := once_f hq2 2 (by omega) (by omega)
  obtain ⟨n, q4, e4, hn0, hn1, hq4⟩ := below_f hq3 8 (by omega) (by omega)
  have lp : ∀ (m : ByteArray) (d : Nat) (ts : List Int) (p : Int), ts.length + d ≤ 50 → Rd l p → ∃ ts', Ev (fun k => spec_DrawPlanned.p20 k 0 0 0 l p a b y types m ts (d : Int)) (a, b, y, types, m, ts') ∧ ts'.length ≤ 100 := by
    intro m d
    have sn : ∀ (l : List Int) (x : Int), (l ++ [x]).length = l.length + 1 := fun l x => by simp
    induction d with
    | zero =>
      intro ts p ht hp
      obtain ⟨o, q, eo, hq⟩ := once_f hp 12 (by omega) (by omega)
      cases o with
      | true =>
        obtain ⟨v, q2, ev, _, _, _⟩ := off_ev hq 0 ((types.length : Int) - 1) (by omega) (by omega) (by omega) (by omega)
        refine ⟨ts ++ [v], Ev.step (fun k => by rw [spec_DrawPlanned.p20]) ?_, by rw [sn]; omega⟩
        rw [w64 (x := (types.length : Int) - 1) (by omega) (by omega)]
        exact Ev.neg (by omega) (Ev.bindo eo (Ev.pos rfl (Ev.bind ev (Ev.pos (by omega) (Ev.eq rfl)))))
      | false =>
        refine ⟨ts, Ev.step (fun k => by rw [spec_DrawPlanned.p20]) ?_, by omega⟩
        exact Ev.neg (by omega) (Ev.bindo eo (Ev.neg (by simp) (Ev.eq rfl)))
    | succ d ih =>
      intro ts p ht hp
      obtain ⟨v, q, ev, hv0, hv1, hq⟩ := below_f hp (types.length : Int) (by omega) (by omega)
      obtain ⟨ts', e', hr⟩ := ih (ts ++ [v]) q (by rw [sn]; omega) hq
      refine ⟨ts', Ev.step (fun k => by rw [spec_DrawPlanned.p20]) ?_, hr⟩
      rw [show wrap64 (((d + 1 : Nat) : Int) - 1) = (d : Int) from by rw [w64 (by omega) (by omega)]; omega]
      exact Ev.pos (by omega) (Ev.bindo ev (Ev.pos (by omega) e'))
  unfold spec_DrawPlanned.f
  cases o with
  | true =>
    obtain ⟨ts', e5, hr⟩ := lp (zerosB 64) n.toNat [] q4 (by simp only [List.length_nil]; omega) hq4
    rw [show ((n.toNat : Nat) : Int) = n from by omega] at e5
    exact ⟨(a, b, y, types), zerosB 64, ts', Ev.bindo rfl (Ev.bind e (Ev.bind e2 (Ev.bindo e3 (Ev.pos rfl (Ev.bindo (spec_l1Zeros_f 64 (by omega)) (Ev.bindo e4 e5)))))), h2, h3, hr⟩
  | false =>
    obtain ⟨ts', e5, hr⟩ := lp m n.toNat [] q4 (by simp only [List.length_nil]; omega) hq4
    rw [show ((n.toNat : Nat) : Int) = n from by omega] at e5
    exact ⟨(a, b, y, types), m, ts', Ev.bindo rfl (Ev.bind e (Ev.bind e2 (Ev.bindo e3 (Ev.neg (by simp) (Ev.bindo e4 e5))))), h2, h3, hr⟩
theorem planF_pre (c : Cfg) : ∀ (ts : List Int) (m : ByteArray) (out : List Int) {l m'}, planF c ts m out = some (l, m') → ∃ k, l = out ++ k
  | [], m, out, l, m', h => by
    rw [planF] at h
    injection h with h
    injection h with h1 h2
    exact ⟨[], by simp [h1]⟩
  | t :: ts, m, out, l, m', h => by
    rw [planF] at h
    split at h
    · cases h
    · obtain ⟨k, hk⟩ := planF_pre c ts _ _ h
      exact ⟨_ :: k, by rw [hk, List.append_assoc]; rfl⟩
theorem FnPlanned : laws_FnPlanned.Pure := by
  intro l hb
  have hb := hb.2
  refine Ev.rounds ?_
  unfold laws_FnPlanned.f laws_big.f
  refine Ev.bindo rfl (Ev.cases (fun _ => Ev.eq rfl) (fun c0 => ?_))
  simp only [decide_eq_true_eq] at c0
  obtain ⟨c, m, types, e, h1, h2, h3⟩ := drawPlanned_ev (isBytes_of hb) (by omega)
  have hs : ∀ x ∈ c.2.2.2, x.size ≤ 1048576 := fun x hx => by have := h2 x hx; omega
  have ei := impl_Planned_ev c m types hs (by omega)
  have es := spec_Planned_ev c m types (by omega) hs (by omega)
  have hlen := plannedR_length c m types
  have q := sameInts_ev (plannedR c m types).1 (by omega)
  refine Ev.bind e (Ev.bind ei (Ev.bind es (Ev.pos rfl (Ev.bind q (Ev.pos rfl ?_)))))
  refine Ev.cases (fun ok => ?_) (fun _ => Ev.pos rfl (Ev.bind q (Ev.eq rfl)))
  have hk : configOk c = true ∧ mapOk m ∧ types.length ≤ 400 ∧ types.all (isTy c) = true ∧ ∃ L m', planF c types m [] = some (L, m') ∧ plannedR c m types = (L, true) := by
    unfold plannedR at ok ⊢
    split at ok
    · rename_i h
      refine ⟨h.1, h.2.1, h.2.2.1, h.2.2.2, ?_⟩
      cases hp : planF c types m [] with
      | none => rw [hp] at ok; cases ok
      | some r =>
        refine ⟨r.1, r.2, rfl, ?_⟩
        rw [if_pos h]
        rfl
    · cases ok
  obtain ⟨hc, hm, h4, hall, L, m', hp, hR⟩ := hk
  have hall := List.all_eq_true.1 hall
  have hf := configOk_facts hc
  have ht := hf.2.2.2.2.2.2.2
  have hll := planF_length c types m [] hp
  rw [hR]
  simp only []
  have hFD : Ev (fun k => impl_FirstData.f k c.1 c.2.1 c.2.2.1 c.2.2.2) (4 + c.2.1) := by
    unfold impl_FirstData.f
    refine Ev.bind (impl_ConfigOk_ev c hs) (Ev.pos hc (Ev.eq ?_))
    exact w64 (by omega) (by omega)
  have key : ∀ (ts : List Int) (i : Nat) (m : ByteArray) (out : List Int), i ≤ types.length → ts = types.drop i → out.length = i → mapOk m → planF c ts m out = some (L, m') → Ev (fun k => laws_FnPlanned.p28 k c.1 c.2.1 c.2.2.1 c.2.2.2 m types L (i : Int)) true := by
    intro ts
    induction ts with
    | nil =>
      intro i m out hi hts ho hm hpl
      have hie : i = types.length := by
        have := congrArg List.length hts
        rw [List.length_nil, List.length_drop] at this
        omega
      have en := impl_Planned_ev c m [] hs (by simp)
      have hn : (plannedR c m []).1.length = 0 := by
        unfold plannedR
        split <;> rfl
      refine Ev.step (fun k => by rw [laws_FnPlanned.p28]) ?_
      simp only [List.length_nil] at hll
      exact Ev.neg (by omega) (Ev.bind en (Ev.pos (by omega) (Ev.eq (by simp [hn]))))
    | cons t ts ih =>
      intro i m out hi hts ho hm hpl
      have hi2 : i < types.length := by
        have := congrArg List.length hts
        rw [List.length_cons, List.length_drop] at this
        omega
      rw [List.drop_eq_getElem_cons hi2] at hts
      injection hts with hv1 hl1
      have ht1 := hall t (by rw [hv1]; exact List.getElem_mem hi2)
      unfold isTy at ht1
      simp only [Bool.and_eq_true, decide_eq_true_eq] at ht1
      have hb := runL_bound ht t
      have hts2 := type_size ht t
      rw [planF] at hpl
      split at hpl
      · cases hpl
      · rename_i c1
        obtain ⟨x, hx, x1, x2, x3, x4, x5, x6⟩ := find_yes hc hm (by omega) c1
        rw [hx, Int.toNat_natCast] at hpl
        obtain ⟨kk, hkk⟩ := planF_pre c _ _ _ hpl
        have hLi : i < L.length := by rw [hll]; simp only [List.length_nil]; omega
        have hrd : rd L (i : Int) = (x : Int) := by
          rw [rd_get hLi]
          simp only [hkk]
          rw [List.getElem_append_left (by rw [List.length_append, List.length_singleton]; omega), List.getElem_append_right (by omega)]
          simp
        have hRun : impl_RunOf.f (rdOf ByteArray.empty c.2.2.2 t) = some (runL c.2.2.2 t : Int) := by
          unfold impl_RunOf.f
          rw [isType_f _ (by omega), Option.bind_some, if_pos (type_at ht (by omega) (by omega)), impl_runOf_f ht]
          rfl
        have hyes := (take_iff (m := m) (a := (x : Int)) (n := (runL c.2.2.2 t : Int)) ⟨hm, by omega, by omega, by omega⟩).2 (fun j a0 a1 => x4 j (by omega) (by omega))
        obtain ⟨_, _, hrr⟩ := take_yes hyes
        rw [Int.toNat_natCast, Int.toNat_natCast] at hrr
        have hT := impl_TakeRun_ev m (x : Int) (runL c.2.2.2 t : Int)
        rw [hrr] at hT
        have nxt := ih (i + 1) _ _ (by omega) hl1 (by rw [List.length_append, List.length_singleton]; omega) x5 hpl
        clear hrr hyes x6 x5 hpl hkk ih x4 c1 hx ei es e q hp hR hall hlen
        generalize changed m true x (runL c.2.2.2 t) = M at *
        generalize hn : runL c.2.2.2 t = n at *
        have hin : (i : Int) < (L.length : Int) := by omega
        have hit : (i : Int) < (types.length : Int) := by omega
        have hi0 : (0 : Int) ≤ (i : Int) := by omega
        have g1 : ¬ (x : Int) < 4 + c.2.1 := by omega
        have g2 : ¬ (x : Int) + (n : Int) > c.1 := by omega
        have g3 : 0 ≤ t := by omega
        have g4 : t < (c.2.2.2.length : Int) := by omega
        have g5 : i ≤ 4611686018427387904 := by omega
        have hwx : wrap64 ((x : Int) + (n : Int)) = (x : Int) + (n : Int) := w64 (by omega) (by omega)
        refine Ev.step (fun k => by rw [laws_FnPlanned.p28]) ?_
        rw [rd_get hi2, ← hv1, hrd, w64s (i := i) g5]
        refine Ev.pos hin (Ev.pos hi0 (Ev.pos hit (Ev.pos g3 (Ev.pos g4 (Ev.bindo hRun ?_)))))
        rw [hwx]
        refine Ev.pos hi0 (Ev.pos hin (Ev.bind hT ?_))
        refine Ev.pos rfl (Ev.pos hi0 (Ev.pos hin (Ev.bind hFD ?_)))
        exact Ev.neg g1 (Ev.pos hi0 (Ev.pos hin (Ev.neg g2 nxt)))
  exact key types 0 m [] (by omega) rfl rfl hm hp
end Go.Proofs.YtlljkankongifaaDoor.Abs.Pu
namespace Go.Proofs
open Go.Shelf
def Tryd.lays231_ren : Go.Shelf.Ren := ⟨fun | 231 => 132 | n => n, fun | 9 => 9 | 5 => 5 | 3 => 3 | 4 => 4 | n => n, fun | n => n⟩
theorem Tryd.lays231 : Go.Proofs.Lays.n231 Tryd.prog Tryd.lays231_ren := {
  mixed := by kernel_rfl
  f231 := Tryd.func132.trans (congrArg some (by kernel_rfl))
  t3 := Tryd.underlying3
  a3 := Tryd.isAgg3
  z3 := Tryd.sizeOf3
  v3 := Tryd.zeroValue3
  t4 := Tryd.underlying4
  a4 := Tryd.isAgg4
  z4 := Tryd.sizeOf4
  v4 := Tryd.zeroValue4
  t5 := Tryd.underlying5
  a5 := Tryd.isAgg5
  z5 := Tryd.sizeOf5
  v5 := Tryd.zeroValue5
  t9 := Tryd.underlying9
  a9 := Tryd.isAgg9
  z9 := Tryd.sizeOf9
  v9 := Tryd.zeroValue9 }
open Go.RowKit in
/-- strings.trimLeftByte (no doc; what TrimLeft and Trim call at a cutset of one ASCII byte): the leading bytes that are c are cut off. The world is as it was. (LAID: no walk: one application.) -/
theorem Tryd.strings_trimLeftByte (s : ByteArray) (c : UInt8) (w : World) :
    Calls Tryd.prog 132 #[.string s, .int .u8 c.toNat] w fun e w' => e = .returned (.string ⟨(Lib.trimLeftB s.data.toList c).toArray⟩) ∧ w' = w := Any.strings_trimLeftByte Tryd.lays231 s c w
def Tryd.lays232_ren : Go.Shelf.Ren := ⟨fun | 232 => 133 | n => n, fun | 9 => 9 | 5 => 5 | 3 => 3 | 4 => 4 | n => n, fun | n => n⟩
theorem Tryd.lays232 : Go.Proofs.Lays.n232 Tryd.prog Tryd.lays232_ren := {
  mixed := by kernel_rfl
  f232 := Tryd.func133.trans (congrArg some (by kernel_rfl))
  t3 := Tryd.underlying3
  a3 := Tryd.isAgg3
  z3 := Tryd.sizeOf3
  v3 := Tryd.zeroValue3
  t4 := Tryd.underlying4
  a4 := Tryd.isAgg4
  z4 := Tryd.sizeOf4
  v4 := Tryd.zeroValue4
  t5 := Tryd.underlying5
  a5 := Tryd.isAgg5
  z5 := Tryd.sizeOf5
  v5 := Tryd.zeroValue5
  t9 := Tryd.underlying9
  a9 := Tryd.isAgg9
  z9 := Tryd.sizeOf9
  v9 := Tryd.zeroValue9 }
open Go.RowKit in
/-- strings.trimRightByte (no doc; what TrimRight and Trim call at a cutset of one ASCII byte): the trailing bytes that are c are cut off. The world is as it was. ('hs': a string's length is a number that an int holds.) (LAID: no walk: one application.) -/
theorem Tryd.strings_trimRightByte (s : ByteArray) (c : UInt8) (w : World) (hs : s.size ≤ 9223372036854775807) :
    Calls Tryd.prog 133 #[.string s, .int .u8 c.toNat] w fun e w' => e = .returned (.string ⟨(Lib.trimRightB s.data.toList c).toArray⟩) ∧ w' = w := Any.strings_trimRightByte Tryd.lays232 s c w hs
def Tryd.lays160_ren : Go.Shelf.Ren := ⟨fun | 160 => 107 | 232 => 133 | 231 => 132 | 227 => 134 | 234 => 136 | 233 => 135 | 236 => 138 | 235 => 137 | 228 => 152 | 271 => 155 | 151 => 154 | 197 => 153 | 120 => 164 | 152 => 163 | 260 => 162 | 137 => 167 | 119 => 168 | 224 => 169 | 225 => 170 | 217 => 171 | 266 => 172 | n => n, fun | 9 => 9 | 4 => 4 | 3 => 3 | 5 => 5 | 117 => 122 | 116 => 121 | 0 => 0 | 124 => 125 | 21 => 21 | 105 => 142 | 46 => 99 | 119 => 154 | 139 => 157 | 138 => 156 | n => n, fun | 3 => 0 | 4 => 1 | n => n⟩
theorem Tryd.lays160 : Go.Proofs.Lays.n160 Tryd.prog Tryd.lays160_ren := {
  mixed := by kernel_rfl
  f119 := Tryd.func168.trans (congrArg some (by kernel_rfl))
  f120 := Tryd.func164.trans (congrArg some (by kernel_rfl))
  f137 := Tryd.func167.trans (congrArg some (by kernel_rfl))
  f151 := Tryd.func154.trans (congrArg some (by kernel_rfl))
  f152 := Tryd.func163.trans (congrArg some (by kernel_rfl))
  f160 := Tryd.func107.trans (congrArg some (by kernel_rfl))
  f197 := Tryd.func153.trans (congrArg some (by kernel_rfl))
  f217 := Tryd.func171.trans (congrArg some (by kernel_rfl))
  f224 := Tryd.func169.trans (congrArg some (by kernel_rfl))
  f225 := Tryd.func170.trans (congrArg some (by kernel_rfl))
  f227 := Tryd.func134.trans (congrArg some (by kernel_rfl))
  f228 := Tryd.func152.trans (congrArg some (by kernel_rfl))
  f231 := Tryd.func132.trans (congrArg some (by kernel_rfl))
  f232 := Tryd.func133.trans (congrArg some (by kernel_rfl))
  f233 := Tryd.func135.trans (congrArg some (by kernel_rfl))
  f234 := Tryd.func136.trans (congrArg some (by kernel_rfl))
  f235 := Tryd.func137.trans (congrArg some (by kernel_rfl))
  f236 := Tryd.func138.trans (congrArg some (by kernel_rfl))
  f260 := Tryd.func162.trans (congrArg some (by kernel_rfl))
  f266 := Tryd.func172.trans (congrArg some (by kernel_rfl))
  f271 := Tryd.func155.trans (congrArg some (by kernel_rfl))
  t0 := Tryd.underlying0
  a0 := Tryd.isAgg0
  z0 := Tryd.sizeOf0
  v0 := Tryd.zeroValue0
  t3 := Tryd.underlying3
  a3 := Tryd.isAgg3
  z3 := Tryd.sizeOf3
  v3 := Tryd.zeroValue3
  t4 := Tryd.underlying4
  a4 := Tryd.isAgg4
  z4 := Tryd.sizeOf4
  v4 := Tryd.zeroValue4
  t5 := Tryd.underlying5
  a5 := Tryd.isAgg5
  z5 := Tryd.sizeOf5
  v5 := Tryd.zeroValue5
  t9 := Tryd.underlying9
  a9 := Tryd.isAgg9
  z9 := Tryd.sizeOf9
  v9 := Tryd.zeroValue9
  t21 := Tryd.underlying21
  a21 := Tryd.isAgg21
  z21 := Tryd.sizeOf21
  v21 := Tryd.zeroValue21
  t46 := Tryd.underlying99
  a46 := Tryd.isAgg99
  z46 := Tryd.sizeOf99
  v46 := Tryd.zeroValue99
  t105 := Tryd.underlying142
  a105 := Tryd.isAgg142
  z105 := Tryd.sizeOf142
  v105 := Tryd.zeroValue142
  t116 := Tryd.underlying121
  a116 := Tryd.isAgg121
  z116 := Tryd.sizeOf121
  t117 := Tryd.underlying122
  a117 := Tryd.isAgg122
  z117 := Tryd.sizeOf122
  v117 := Tryd.zeroValue122
  t119 := Tryd.underlying154
  a119 := Tryd.isAgg154
  z119 := Tryd.sizeOf154
  t124 := Tryd.underlying125
  a124 := Tryd.isAgg125
  z124 := Tryd.sizeOf125
  v124 := Tryd.zeroValue125
  t138 := Tryd.underlying156
  a138 := Tryd.isAgg156
  z138 := Tryd.sizeOf156
  v138 := Tryd.zeroValue156
  t139 := Tryd.underlying157
  a139 := Tryd.isAgg157
  z139 := Tryd.sizeOf157
  v139 := Tryd.zeroValue157
  g3 := by kernel_rfl
  g4 := by kernel_rfl }
open Go.RowKit in
/-- strings.Trim: "Trim returns a slice of the string s with all leading and trailing Unicode code points contained in cutset removed.": AT A cutset OF ONE ASCII BYTE. THE WORLD BEHIND IT: as it was, or (where s is not empty) with ONE DRAW MORE off the tape: the statement 'return trimLeftByte(trimRightByte(s, c), c)' draws its order of evaluation. (LAID: no walk: one application.) -/
theorem Tryd.strings_Trim_one (s : ByteArray) (c : UInt8) (hc : c.toNat < 128) (w : World) (hs : s.size ≤ 9223372036854775807) :
    Calls Tryd.prog 107 #[.string s, .string ⟨#[c]⟩] w fun e w' => e = .returned (.string ⟨(Lib.trimB s.data.toList c).toArray⟩) ∧ (w' = w ∨ w' = w.drew) := Any.strings_Trim_one Tryd.lays160 s c hc w hs
def Tryd.lays119_ren : Go.Shelf.Ren := ⟨fun | 119 => 168 | n => n, fun | 21 => 21 | 4 => 4 | n => n, fun | n => n⟩
theorem Tryd.lays119 : Go.Proofs.Lays.n119 Tryd.prog Tryd.lays119_ren := {
  mixed := by kernel_rfl
  f119 := Tryd.func168.trans (congrArg some (by kernel_rfl))
  t4 := Tryd.underlying4
  a4 := Tryd.isAgg4
  z4 := Tryd.sizeOf4
  v4 := Tryd.zeroValue4
  t21 := Tryd.underlying21
  a21 := Tryd.isAgg21
  z21 := Tryd.sizeOf21
  v21 := Tryd.zeroValue21 }
/-- utf8.ValidRune: "ValidRune reports whether r can be legally encoded as UTF-8. Code points that are out of range or a surrogate half are illegal.": IT RETURNS 'Lib.validRune r'; the world is as it was. (LAID: no walk: one application.) -/
theorem Tryd.utf8_ValidRune (r : Int) (w : World) :
    Calls Tryd.prog 168 #[.int .i32 r] w fun e w' => e = .returned (.bool (Lib.validRune r)) ∧ w' = w := Any.utf8_ValidRune Tryd.lays119 r w
def Tryd.lays120_ren : Go.Shelf.Ren := ⟨fun | 120 => 164 | n => n, fun | 5 => 5 | 4 => 4 | n => n, fun | n => n⟩
theorem Tryd.lays120 : Go.Proofs.Lays.n120 Tryd.prog Tryd.lays120_ren := {
  mixed := by kernel_rfl
  f120 := Tryd.func164.trans (congrArg some (by kernel_rfl))
  t4 := Tryd.underlying4
  a4 := Tryd.isAgg4
  z4 := Tryd.sizeOf4
  v4 := Tryd.zeroValue4
  t5 := Tryd.underlying5
  a5 := Tryd.isAgg5
  z5 := Tryd.sizeOf5
  v5 := Tryd.zeroValue5 }
/-- utf8.RuneStart: "RuneStart reports whether the byte could be the first byte of an encoded, possibly invalid rune. Second and subsequent bytes always have the top two bits set to 10.": IT RETURNS 'Lib.runeStart b'; the world is as it was. ('h0', 'h1': b is a byte: a caller has it of every byte that it was handed.) (LAID: no walk: one application.) -/
theorem Tryd.utf8_RuneStart (b : Int) (w : World) (h0 : 0 ≤ b) (h1 : b < 256) :
    Calls Tryd.prog 164 #[.int .u8 b] w fun e w' => e = .returned (.bool (Lib.runeStart b)) ∧ w' = w := Any.utf8_RuneStart Tryd.lays120 b w h0 h1
def Tryd.lays137_ren : Go.Shelf.Ren := ⟨fun | 137 => 167 | 217 => 171 | 266 => 172 | n => n, fun | 9 => 9 | 5 => 5 | 3 => 3 | n => n, fun | n => n⟩
theorem Tryd.lays137 : Go.Proofs.Lays.n137 Tryd.prog Tryd.lays137_ren := {
  mixed := by kernel_rfl
  f137 := Tryd.func167.trans (congrArg some (by kernel_rfl))
  f217 := Tryd.func171.trans (congrArg some (by kernel_rfl))
  f266 := Tryd.func172.trans (congrArg some (by kernel_rfl))
  t3 := Tryd.underlying3
  a3 := Tryd.isAgg3
  z3 := Tryd.sizeOf3
  v3 := Tryd.zeroValue3
  t5 := Tryd.underlying5
  a5 := Tryd.isAgg5
  z5 := Tryd.sizeOf5
  v5 := Tryd.zeroValue5
  t9 := Tryd.underlying9
  a9 := Tryd.isAgg9
  z9 := Tryd.sizeOf9
  v9 := Tryd.zeroValue9 }
open Go.RowKit in
/-- strings.IndexByte: "IndexByte returns the index of the first instance of c in s, or -1 if c is not present in s.": IT RETURNS 'Lib.indexByte s c'; the world is as it was. (LAID: no walk: one application.) -/
theorem Tryd.strings_IndexByte (s : ByteArray) (c : Int) (w : World) :
    Calls Tryd.prog 167 #[.string s, .int .u8 c] w fun e w' => e = .returned (.int .i64 (Lib.indexByte s.data.toList c.toNat.toUInt8)) ∧ w' = w := Any.strings_IndexByte Tryd.lays137 s c w
def Tryd.lays217_ren : Go.Shelf.Ren := ⟨fun | 217 => 171 | 266 => 172 | n => n, fun | 9 => 9 | 5 => 5 | 3 => 3 | n => n, fun | n => n⟩
theorem Tryd.lays217 : Go.Proofs.Lays.n217 Tryd.prog Tryd.lays217_ren := {
  mixed := by kernel_rfl
  f217 := Tryd.func171.trans (congrArg some (by kernel_rfl))
  f266 := Tryd.func172.trans (congrArg some (by kernel_rfl))
  t3 := Tryd.underlying3
  a3 := Tryd.isAgg3
  z3 := Tryd.sizeOf3
  v3 := Tryd.zeroValue3
  t5 := Tryd.underlying5
  a5 := Tryd.isAgg5
  z5 := Tryd.sizeOf5
  v5 := Tryd.zeroValue5
  t9 := Tryd.underlying9
  a9 := Tryd.isAgg9
  z9 := Tryd.sizeOf9
  v9 := Tryd.zeroValue9 }
open Go.RowKit Go.Lib in
/-- internal/stringslite.IndexByte (what strings.IndexByte calls): IT RETURNS 'Lib.indexByte s c'; the world is as it was. (LAID: no walk: one application.) -/
theorem Tryd.stringslite_IndexByte (s : ByteArray) (c : Int) (w : World) :
    Calls Tryd.prog 171 #[.string s, .int .u8 c] w fun e w' => e = .returned (.int .i64 (Lib.indexByte s.data.toList c.toNat.toUInt8)) ∧ w' = w := Any.stringslite_IndexByte Tryd.lays217 s c w
def Tryd.lays224_ren : Go.Shelf.Ren := ⟨fun | 224 => 169 | n => n, fun | 3 => 3 | n => n, fun | n => n⟩
theorem Tryd.lays224 : Go.Proofs.Lays.n224 Tryd.prog Tryd.lays224_ren := {
  mixed := by kernel_rfl
  f224 := Tryd.func169.trans (congrArg some (by kernel_rfl))
  t3 := Tryd.underlying3
  a3 := Tryd.isAgg3
  z3 := Tryd.sizeOf3
  v3 := Tryd.zeroValue3 }
open Go.RowKit Go.Lib in
/-- internal/bytealg.Cutover: "Cutover reports the number of failures of IndexByte we should tolerate before switching over to Index. n is the number of bytes processed so far.": on amd64: (n + 16) / 8. (LAID: no walk: one application.) -/
theorem Tryd.bytealg_Cutover (n : Int) (h0 : 0 ≤ n) (h1 : n < 4611686018427387904) (w : World) :
    Calls Tryd.prog 169 #[.int .i64 n] w fun e w' => e = .returned (.int .i64 ((n + 16) / 8)) ∧ w' = w := Any.bytealg_Cutover Tryd.lays224 n h0 h1 w
def Tryd.lays206_ren : Go.Shelf.Ren := ⟨fun | 206 => 158 | n => n, fun | 9 => 9 | 4 => 4 | 3 => 3 | n => n, fun | n => n⟩
theorem Tryd.lays206 : Go.Proofs.Lays.n206 Tryd.prog Tryd.lays206_ren := {
  mixed := by kernel_rfl
  f206 := Tryd.func158.trans (congrArg some (by kernel_rfl))
  t3 := Tryd.underlying3
  a3 := Tryd.isAgg3
  z3 := Tryd.sizeOf3
  v3 := Tryd.zeroValue3
  t4 := Tryd.underlying4
  a4 := Tryd.isAgg4
  z4 := Tryd.sizeOf4
  v4 := Tryd.zeroValue4
  t9 := Tryd.underlying9
  a9 := Tryd.isAgg9
  z9 := Tryd.sizeOf9
  v9 := Tryd.zeroValue9 }
open Go.RowKit Go.Lib in
/-- internal/stringslite.HasPrefix (what strings.HasPrefix calls). (LAID: no walk: one application.) -/
theorem Tryd.stringslite_HasPrefix (s p : ByteArray) (w : World) :
    Calls Tryd.prog 158 #[.string s, .string p] w fun e w' => e = .returned (.bool (Lib.hasPrefix s.data.toList p.data.toList)) ∧ w' = w := Any.stringslite_HasPrefix Tryd.lays206 s p w
def Tryd.lays99_ren : Go.Shelf.Ren := ⟨fun | 99 => 145 | 206 => 158 | n => n, fun | 9 => 9 | 4 => 4 | 3 => 3 | n => n, fun | n => n⟩
theorem Tryd.lays99 : Go.Proofs.Lays.n99 Tryd.prog Tryd.lays99_ren := {
  mixed := by kernel_rfl
  f99 := Tryd.func145.trans (congrArg some (by kernel_rfl))
  f206 := Tryd.func158.trans (congrArg some (by kernel_rfl))
  t3 := Tryd.underlying3
  a3 := Tryd.isAgg3
  z3 := Tryd.sizeOf3
  v3 := Tryd.zeroValue3
  t4 := Tryd.underlying4
  a4 := Tryd.isAgg4
  z4 := Tryd.sizeOf4
  v4 := Tryd.zeroValue4
  t9 := Tryd.underlying9
  a9 := Tryd.isAgg9
  z9 := Tryd.sizeOf9
  v9 := Tryd.zeroValue9 }
open Go.RowKit Go.Lib in
/-- strings.HasPrefix: "HasPrefix reports whether the string s begins with prefix.": IT RETURNS 'Lib.hasPrefix s prefix'; the world is as it was. (LAID: no walk: one application.) -/
theorem Tryd.strings_HasPrefix (s p : ByteArray) (w : World) :
    Calls Tryd.prog 145 #[.string s, .string p] w fun e w' => e = .returned (.bool (Lib.hasPrefix s.data.toList p.data.toList)) ∧ w' = w := Any.strings_HasPrefix Tryd.lays99 s p w
def Tryd.lays197_ren : Go.Shelf.Ren := ⟨fun | 197 => 153 | 260 => 162 | n => n, fun | 9 => 9 | 21 => 21 | 3 => 3 | 4 => 4 | 5 => 5 | 105 => 142 | 119 => 154 | 0 => 0 | 46 => 99 | 139 => 157 | 138 => 156 | n => n, fun | 3 => 0 | 4 => 1 | n => n⟩
theorem Tryd.lays197 : Go.Proofs.Lays.n197 Tryd.prog Tryd.lays197_ren := {
  mixed := by kernel_rfl
  f197 := Tryd.func153.trans (congrArg some (by kernel_rfl))
  f260 := Tryd.func162.trans (congrArg some (by kernel_rfl))
  t0 := Tryd.underlying0
  a0 := Tryd.isAgg0
  z0 := Tryd.sizeOf0
  v0 := Tryd.zeroValue0
  t3 := Tryd.underlying3
  a3 := Tryd.isAgg3
  z3 := Tryd.sizeOf3
  v3 := Tryd.zeroValue3
  t4 := Tryd.underlying4
  a4 := Tryd.isAgg4
  z4 := Tryd.sizeOf4
  v4 := Tryd.zeroValue4
  t5 := Tryd.underlying5
  a5 := Tryd.isAgg5
  z5 := Tryd.sizeOf5
  v5 := Tryd.zeroValue5
  t9 := Tryd.underlying9
  a9 := Tryd.isAgg9
  z9 := Tryd.sizeOf9
  v9 := Tryd.zeroValue9
  t21 := Tryd.underlying21
  a21 := Tryd.isAgg21
  z21 := Tryd.sizeOf21
  v21 := Tryd.zeroValue21
  t46 := Tryd.underlying99
  a46 := Tryd.isAgg99
  z46 := Tryd.sizeOf99
  v46 := Tryd.zeroValue99
  t105 := Tryd.underlying142
  a105 := Tryd.isAgg142
  z105 := Tryd.sizeOf142
  v105 := Tryd.zeroValue142
  t119 := Tryd.underlying154
  a119 := Tryd.isAgg154
  z119 := Tryd.sizeOf154
  t138 := Tryd.underlying156
  a138 := Tryd.isAgg156
  z138 := Tryd.sizeOf156
  v138 := Tryd.zeroValue156
  t139 := Tryd.underlying157
  a139 := Tryd.isAgg157
  z139 := Tryd.sizeOf157
  v139 := Tryd.zeroValue157
  g3 := by kernel_rfl
  g4 := by kernel_rfl }
open Go.RowKit Go.Lib in
/-- unicode/utf8.DecodeRuneInString: "DecodeRuneInString is like DecodeRune but its input is a string.": ("DecodeRune unpacks the first UTF-8 encoding in p and returns the rune and its width in bytes."): WHERE s BEGINS WITH AN ASCII BYTE x: (x, 1). (LAID: no walk: one application.) -/
theorem Tryd.utf8_DecodeRuneInString_ascii (s : ByteArray) (x : UInt8) (w : World) (h0 : s.data.toList[0]? = some x) (hx : x.toNat < 128) :
    Calls Tryd.prog 153 #[.string s] w fun e w' => e = .returned (.tuple #[.int .i32 x.toNat, .int .i64 1]) ∧ w' = w := Any.utf8_DecodeRuneInString_ascii Tryd.lays197 s x w h0 hx
def Tryd.lays152_ren : Go.Shelf.Ren := ⟨fun | 152 => 163 | 137 => 167 | 119 => 168 | 224 => 169 | 225 => 170 | 217 => 171 | 266 => 172 | n => n, fun | 9 => 9 | 21 => 21 | 3 => 3 | 4 => 4 | 5 => 5 | 0 => 0 | 46 => 99 | n => n, fun | n => n⟩
theorem Tryd.lays152 : Go.Proofs.Lays.n152 Tryd.prog Tryd.lays152_ren := {
  mixed := by kernel_rfl
  f119 := Tryd.func168.trans (congrArg some (by kernel_rfl))
  f137 := Tryd.func167.trans (congrArg some (by kernel_rfl))
  f152 := Tryd.func163.trans (congrArg some (by kernel_rfl))
  f217 := Tryd.func171.trans (congrArg some (by kernel_rfl))
  f224 := Tryd.func169.trans (congrArg some (by kernel_rfl))
  f225 := Tryd.func170.trans (congrArg some (by kernel_rfl))
  f266 := Tryd.func172.trans (congrArg some (by kernel_rfl))
  t0 := Tryd.underlying0
  a0 := Tryd.isAgg0
  z0 := Tryd.sizeOf0
  v0 := Tryd.zeroValue0
  t3 := Tryd.underlying3
  a3 := Tryd.isAgg3
  z3 := Tryd.sizeOf3
  v3 := Tryd.zeroValue3
  t4 := Tryd.underlying4
  a4 := Tryd.isAgg4
  z4 := Tryd.sizeOf4
  v4 := Tryd.zeroValue4
  t5 := Tryd.underlying5
  a5 := Tryd.isAgg5
  z5 := Tryd.sizeOf5
  v5 := Tryd.zeroValue5
  t9 := Tryd.underlying9
  a9 := Tryd.isAgg9
  z9 := Tryd.sizeOf9
  v9 := Tryd.zeroValue9
  t21 := Tryd.underlying21
  a21 := Tryd.isAgg21
  z21 := Tryd.sizeOf21
  v21 := Tryd.zeroValue21
  t46 := Tryd.underlying99
  a46 := Tryd.isAgg99
  z46 := Tryd.sizeOf99
  v46 := Tryd.zeroValue99 }
open Go.RowKit Go.Lib in
theorem Tryd.strings_IndexRune_ascii (s : ByteArray) (r : Int) (w : World) (h0 : 0 ≤ r) (h1 : r < 128) :
    Calls Tryd.prog 163 #[.string s, .int .i32 r] w fun e w' => e = .returned (.int .i64 (Lib.indexByte s.data.toList r.toNat.toUInt8)) ∧ w' = w := Any.strings_IndexRune_ascii Tryd.lays152 s r w h0 h1
def Tryd.lays151_ren : Go.Shelf.Ren := ⟨fun | 151 => 154 | 152 => 163 | 137 => 167 | 119 => 168 | 224 => 169 | 225 => 170 | 217 => 171 | 266 => 172 | n => n, fun | 9 => 9 | 21 => 21 | 4 => 4 | 3 => 3 | 5 => 5 | 0 => 0 | 46 => 99 | n => n, fun | n => n⟩
theorem Tryd.lays151 : Go.Proofs.Lays.n151 Tryd.prog Tryd.lays151_ren := {
  mixed := by kernel_rfl
  f119 := Tryd.func168.trans (congrArg some (by kernel_rfl))
  f137 := Tryd.func167.trans (congrArg some (by kernel_rfl))
  f151 := Tryd.func154.trans (congrArg some (by kernel_rfl))
  f152 := Tryd.func163.trans (congrArg some (by kernel_rfl))
  f217 := Tryd.func171.trans (congrArg some (by kernel_rfl))
  f224 := Tryd.func169.trans (congrArg some (by kernel_rfl))
  f225 := Tryd.func170.trans (congrArg some (by kernel_rfl))
  f266 := Tryd.func172.trans (congrArg some (by kernel_rfl))
  t0 := Tryd.underlying0
  a0 := Tryd.isAgg0
  z0 := Tryd.sizeOf0
  v0 := Tryd.zeroValue0
  t3 := Tryd.underlying3
  a3 := Tryd.isAgg3
  z3 := Tryd.sizeOf3
  v3 := Tryd.zeroValue3
  t4 := Tryd.underlying4
  a4 := Tryd.isAgg4
  z4 := Tryd.sizeOf4
  v4 := Tryd.zeroValue4
  t5 := Tryd.underlying5
  a5 := Tryd.isAgg5
  z5 := Tryd.sizeOf5
  v5 := Tryd.zeroValue5
  t9 := Tryd.underlying9
  a9 := Tryd.isAgg9
  z9 := Tryd.sizeOf9
  v9 := Tryd.zeroValue9
  t21 := Tryd.underlying21
  a21 := Tryd.isAgg21
  z21 := Tryd.sizeOf21
  v21 := Tryd.zeroValue21
  t46 := Tryd.underlying99
  a46 := Tryd.isAgg99
  z46 := Tryd.sizeOf99
  v46 := Tryd.zeroValue99 }
open Go.RowKit Go.Lib in
theorem Tryd.strings_ContainsRune_ascii (s : ByteArray) (r : Int) (w : World) (h0 : 0 ≤ r) (h1 : r < 128) :
    Calls Tryd.prog 154 #[.string s, .int .i32 r] w fun e w' => e = .returned (.bool (decide (0 ≤ Lib.indexByte s.data.toList r.toNat.toUInt8))) ∧ w' = w := Any.strings_ContainsRune_ascii Tryd.lays151 s r w h0 h1
def Tryd.lays227_ren : Go.Shelf.Ren := ⟨fun | 227 => 134 | n => n, fun | 9 => 9 | 116 => 121 | 4 => 4 | 0 => 0 | 3 => 3 | 5 => 5 | n => n, fun | n => n⟩
theorem Tryd.lays227 : Go.Proofs.Lays.n227 Tryd.prog Tryd.lays227_ren := {
  mixed := by kernel_rfl
  f227 := Tryd.func134.trans (congrArg some (by kernel_rfl))
  t0 := Tryd.underlying0
  a0 := Tryd.isAgg0
  z0 := Tryd.sizeOf0
  v0 := Tryd.zeroValue0
  t3 := Tryd.underlying3
  a3 := Tryd.isAgg3
  z3 := Tryd.sizeOf3
  v3 := Tryd.zeroValue3
  t4 := Tryd.underlying4
  a4 := Tryd.isAgg4
  z4 := Tryd.sizeOf4
  v4 := Tryd.zeroValue4
  t5 := Tryd.underlying5
  a5 := Tryd.isAgg5
  z5 := Tryd.sizeOf5
  v5 := Tryd.zeroValue5
  t9 := Tryd.underlying9
  a9 := Tryd.isAgg9
  z9 := Tryd.sizeOf9
  v9 := Tryd.zeroValue9
  t116 := Tryd.underlying121
  a116 := Tryd.isAgg121
  z116 := Tryd.sizeOf121 }
open Go.RowKit Go.Lib in
theorem Tryd.strings_makeASCIISet (hv116 : ∀ w, (zeroValue 121).run Tryd.prog w = .ok (.agg (Array.replicate 256 (.bool false))) w) (chars : ByteArray) (w : World) (hs : chars.size < 4294967281) (hascii : ∀ (j : Nat) b, chars.data.toList[j]? = some b → b.toNat < 128) :
    Calls Tryd.prog 134 #[.string chars] w fun e w' => e = .returned (.tuple #[.agg (Lib.setCells chars.data.toList), .bool true]) ∧ w' = w.alloc (.cells (Lib.setCells chars.data.toList) 121) := Any.strings_makeASCIISet Tryd.lays227 hv116 (by kernel_rfl) chars w hs hascii
def Tryd.lays228_ren : Go.Shelf.Ren := ⟨fun | 228 => 152 | n => n, fun | 124 => 125 | 5 => 5 | 4 => 4 | 0 => 0 | 116 => 121 | n => n, fun | n => n⟩
theorem Tryd.lays228 : Go.Proofs.Lays.n228 Tryd.prog Tryd.lays228_ren := {
  mixed := by kernel_rfl
  f228 := Tryd.func152.trans (congrArg some (by kernel_rfl))
  t0 := Tryd.underlying0
  a0 := Tryd.isAgg0
  z0 := Tryd.sizeOf0
  v0 := Tryd.zeroValue0
  t4 := Tryd.underlying4
  a4 := Tryd.isAgg4
  z4 := Tryd.sizeOf4
  v4 := Tryd.zeroValue4
  t5 := Tryd.underlying5
  a5 := Tryd.isAgg5
  z5 := Tryd.sizeOf5
  v5 := Tryd.zeroValue5
  t116 := Tryd.underlying121
  a116 := Tryd.isAgg121
  z116 := Tryd.sizeOf121
  t124 := Tryd.underlying125
  a124 := Tryd.isAgg125
  z124 := Tryd.sizeOf125
  v124 := Tryd.zeroValue125 }
open Go.RowKit Go.Lib in
/-- '(as *asciiSet) contains(c)': 'as[c]': the set lies at block b, whole. (LAID: no walk: one application.) -/
theorem Tryd.asciiSet_contains (b : Nat) (x : UInt8) (v : Bool) (w : World) (hc : w.cell? ⟨b, x.toNat, none⟩ = some (.bool v)) :
    Calls Tryd.prog 152 #[.pointer (some ⟨b, 0, none⟩), .int .u8 x.toNat] w fun e w' => e = .returned (.bool v) ∧ w' = w := Any.asciiSet_contains Tryd.lays228 b x v w hc
def Tryd.lays264_ren : Go.Shelf.Ren := ⟨fun | 264 => 157 | n => n, fun | 53 => 111 | 46 => 99 | n => n, fun | n => n⟩
theorem Tryd.lays264 : Go.Proofs.Lays.n264 Tryd.prog Tryd.lays264_ren := {
  mixed := by kernel_rfl
  f264 := Tryd.func157.trans (congrArg some (by kernel_rfl))
  t46 := Tryd.underlying99
  a46 := Tryd.isAgg99
  z46 := Tryd.sizeOf99
  v46 := Tryd.zeroValue99
  t53 := Tryd.underlying111
  a53 := Tryd.isAgg111
  z53 := Tryd.sizeOf111
  v53 := Tryd.zeroValue111 }
open Go.RowKit Go.Lib in
theorem Tryd.bits_Mul64 (x y : Nat) (hx : x < 18446744073709551616) (hy : y < 18446744073709551616) (w : World) :
    Calls Tryd.prog 157 #[.int .u64 x, .int .u64 y] w fun e w' => e = .returned (.tuple #[.int .u64 ((x * y / 18446744073709551616 : Nat) : Int), .int .u64 ((x * y % 18446744073709551616 : Nat) : Int)]) ∧ w' = w := Any.bits_Mul64 Tryd.lays264 x y hx hy w
def Tryd.lays212_ren : Go.Shelf.Ren := ⟨fun | 212 => 144 | 263 => 156 | 264 => 157 | n => n, fun | 46 => 99 | 51 => 140 | 146 => 145 | 53 => 111 | 148 => 147 | n => n, fun | n => n⟩
theorem Tryd.lays212 : Go.Proofs.Lays.n212 Tryd.prog Tryd.lays212_ren := {
  mixed := by kernel_rfl
  f212 := Tryd.func144.trans (congrArg some (by kernel_rfl))
  f263 := Tryd.func156.trans (congrArg some (by kernel_rfl))
  f264 := Tryd.func157.trans (congrArg some (by kernel_rfl))
  t46 := Tryd.underlying99
  a46 := Tryd.isAgg99
  z46 := Tryd.sizeOf99
  v46 := Tryd.zeroValue99
  t51 := Tryd.underlying140
  a51 := Tryd.isAgg140
  z51 := Tryd.sizeOf140
  v51 := Tryd.zeroValue140
  t53 := Tryd.underlying111
  a53 := Tryd.isAgg111
  z53 := Tryd.sizeOf111
  v53 := Tryd.zeroValue111
  t146 := Tryd.underlying145
  a146 := Tryd.isAgg145
  z146 := Tryd.sizeOf145
  v146 := Tryd.zeroValue145
  t148 := Tryd.underlying147
  a148 := Tryd.isAgg147
  z148 := Tryd.sizeOf147
  v148 := Tryd.zeroValue147 }
open Go.RowKit Go.Lib in
/-- math/bits.Mul: "Mul returns the full-width product of x and y": on a machine of 64 bits: Mul64's. (LAID: no walk: one application.) -/
theorem Tryd.bits_Mul (x y : Nat) (hx : x < 18446744073709551616) (hy : y < 18446744073709551616) (w : World) :
    Calls Tryd.prog 144 #[.int .u64 x, .int .u64 y] w fun e w' => e = .returned (.tuple #[.int .u64 ((x * y / 18446744073709551616 : Nat) : Int), .int .u64 ((x * y % 18446744073709551616 : Nat) : Int)]) ∧ w' = w := Any.bits_Mul Tryd.lays212 x y hx hy w
def Tryd.lays105_ren : Go.Shelf.Ren := ⟨fun | 105 => 124 | 212 => 144 | 99 => 145 | 165 => 146 | 166 => 147 | 170 => 148 | 169 => 149 | 263 => 156 | 264 => 157 | 206 => 158 | 240 => 159 | 241 => 160 | 276 => 165 | 277 => 166 | n => n, fun | 9 => 9 | 3 => 3 | 4 => 4 | 20 => 20 | 0 => 0 | 46 => 99 | 109 => 129 | 5 => 5 | 72 => 134 | 76 => 138 | 51 => 140 | 146 => 145 | 53 => 111 | 148 => 147 | 70 => 132 | 37 => 40 | 75 => 137 | 127 => 149 | 164 => 151 | 80 => 76 | n => n, fun | n => n⟩
theorem Tryd.lays105 : Go.Proofs.Lays.n105 Tryd.prog Tryd.lays105_ren := {
  mixed := by kernel_rfl
  f99 := Tryd.func145.trans (congrArg some (by kernel_rfl))
  f105 := Tryd.func124.trans (congrArg some (by kernel_rfl))
  f165 := Tryd.func146.trans (congrArg some (by kernel_rfl))
  f166 := Tryd.func147.trans (congrArg some (by kernel_rfl))
  f169 := Tryd.func149.trans (congrArg some (by kernel_rfl))
  f170 := Tryd.func148.trans (congrArg some (by kernel_rfl))
  f206 := Tryd.func158.trans (congrArg some (by kernel_rfl))
  f212 := Tryd.func144.trans (congrArg some (by kernel_rfl))
  f240 := Tryd.func159.trans (congrArg some (by kernel_rfl))
  f241 := Tryd.func160.trans (congrArg some (by kernel_rfl))
  f263 := Tryd.func156.trans (congrArg some (by kernel_rfl))
  f264 := Tryd.func157.trans (congrArg some (by kernel_rfl))
  f276 := Tryd.func165.trans (congrArg some (by kernel_rfl))
  f277 := Tryd.func166.trans (congrArg some (by kernel_rfl))
  t0 := Tryd.underlying0
  a0 := Tryd.isAgg0
  z0 := Tryd.sizeOf0
  v0 := Tryd.zeroValue0
  t3 := Tryd.underlying3
  a3 := Tryd.isAgg3
  z3 := Tryd.sizeOf3
  v3 := Tryd.zeroValue3
  t4 := Tryd.underlying4
  a4 := Tryd.isAgg4
  z4 := Tryd.sizeOf4
  v4 := Tryd.zeroValue4
  t5 := Tryd.underlying5
  a5 := Tryd.isAgg5
  z5 := Tryd.sizeOf5
  v5 := Tryd.zeroValue5
  t9 := Tryd.underlying9
  a9 := Tryd.isAgg9
  z9 := Tryd.sizeOf9
  v9 := Tryd.zeroValue9
  t20 := Tryd.underlying20
  a20 := Tryd.isAgg20
  z20 := Tryd.sizeOf20
  v20 := Tryd.zeroValue20
  t37 := Tryd.underlying40
  a37 := Tryd.isAgg40
  z37 := Tryd.sizeOf40
  v37 := Tryd.zeroValue40
  t46 := Tryd.underlying99
  a46 := Tryd.isAgg99
  z46 := Tryd.sizeOf99
  v46 := Tryd.zeroValue99
  t51 := Tryd.underlying140
  a51 := Tryd.isAgg140
  z51 := Tryd.sizeOf140
  v51 := Tryd.zeroValue140
  t53 := Tryd.underlying111
  a53 := Tryd.isAgg111
  z53 := Tryd.sizeOf111
  v53 := Tryd.zeroValue111
  t70 := Tryd.underlying132
  a70 := Tryd.isAgg132
  z70 := Tryd.sizeOf132
  v70 := Tryd.zeroValue132
  t72 := Tryd.underlying134
  a72 := Tryd.isAgg134
  z72 := Tryd.sizeOf134
  v72 := Tryd.zeroValue134
  t75 := Tryd.underlying137
  a75 := Tryd.isAgg137
  z75 := Tryd.sizeOf137
  v75 := Tryd.zeroValue137
  t76 := Tryd.underlying138
  a76 := Tryd.isAgg138
  z76 := Tryd.sizeOf138
  v76 := Tryd.zeroValue138
  t109 := Tryd.underlying129
  a109 := Tryd.isAgg129
  z109 := Tryd.sizeOf129
  v109 := Tryd.zeroValue129
  t127 := Tryd.underlying149
  a127 := Tryd.isAgg149
  z127 := Tryd.sizeOf149
  v127 := Tryd.zeroValue149
  t146 := Tryd.underlying145
  a146 := Tryd.isAgg145
  z146 := Tryd.sizeOf145
  v146 := Tryd.zeroValue145
  t148 := Tryd.underlying147
  a148 := Tryd.isAgg147
  z148 := Tryd.sizeOf147
  v148 := Tryd.zeroValue147
  t164 := Tryd.underlying151
  a164 := Tryd.isAgg151
  z164 := Tryd.sizeOf151
  v164 := Tryd.zeroValue151 }
theorem Tryd.Builder_Extra_105 : Builder.Extra Tryd.prog Tryd.lays105_ren := {
  sizeBuilder := by kernel_rfl
  liesBuilder := by kernel_rfl
  t5 := Tryd.underlying5
  a5 := Tryd.isAgg5
  z5 := Tryd.sizeOf5
  v5 := Tryd.zeroValue5
  infoByte := by kernel_rfl
  cellsByte := by kernel_rfl
  sizeByte := by kernel_rfl
  neB5 := by decide }
open Go.RowKit Go.Lib in
/-- THE MAIN CASE: at least two copies of a string that is not empty. (LAID: no walk: one application.) -/
theorem Tryd.strings_Repeat_main (s : ByteArray) (c : Nat) (w : World) (hc2 : 2 ≤ c) (hc : c ≤ 9223372036854775807) (hlen : s.size * c ≤ 140737488355328) (h0 : 0 < s.size) :
    Calls Tryd.prog 124 #[.string s, .int .i64 c] w fun e w' => e = .returned (.string ⟨(Lib.repeatL s.data.toList c).toArray⟩) ∧ Below w.heap.size w w' := Any.strings_Repeat_main Tryd.lays105 Tryd.Builder_Extra_105 s c w hc2 hc hlen h0
open Go.RowKit Go.Lib in
theorem Tryd.strings_Repeat_zero (s : ByteArray) (w : World) :
    Calls Tryd.prog 124 #[.string s, .int .i64 0] w fun e w' => e = .returned (.string ⟨#[]⟩) ∧ w' = w := Any.strings_Repeat_zero Tryd.lays105 s w
open Go.RowKit Go.Lib in
theorem Tryd.strings_Repeat_one (s : ByteArray) (w : World) :
    Calls Tryd.prog 124 #[.string s, .int .i64 1] w fun e w' => e = .returned (.string s) ∧ w' = w := Any.strings_Repeat_one Tryd.lays105 s w
open Go.RowKit Go.Lib in
/-- Copies of the empty string. (LAID: no walk: one application.) -/
theorem Tryd.strings_Repeat_empty (s : ByteArray) (c : Nat) (w : World) (hc2 : 2 ≤ c) (hc : c ≤ 9223372036854775807) (h0 : s.size = 0) :
    Calls Tryd.prog 124 #[.string s, .int .i64 c] w fun e w' => e = .returned (.string ⟨#[]⟩) ∧ w' = w := Any.strings_Repeat_empty Tryd.lays105 s c w hc2 hc h0
open Go.RowKit Go.Lib in
/-- count < 0: "It panics if count is negative". (LAID: no walk: one application.) -/
theorem Tryd.strings_Repeat_negative (s : ByteArray) (c : Int) (w : World) (hc : c < 0) :
    Calls Tryd.prog 124 #[.string s, .int .i64 c] w fun e w' => e = .panicked [{ v := repeatPanic Tryd.lays105_ren "strings: negative Repeat count", recovered := false }] ∧ w' = w := Any.strings_Repeat_negative Tryd.lays105 s c w hc
open Go.RowKit Go.Lib in
/-- len(s) * count is no int: ".. or if the result of (len(s) * count) overflows". (LAID: no walk: one application.) -/
theorem Tryd.strings_Repeat_overflow (s : ByteArray) (c : Nat) (w : World) (hc : c ≤ 9223372036854775807) (hs : s.size ≤ 9223372036854775807) (hbig : 9223372036854775807 < s.size * c) :
    Calls Tryd.prog 124 #[.string s, .int .i64 c] w fun e w' => e = .panicked [{ v := repeatPanic Tryd.lays105_ren "strings: Repeat output length overflow", recovered := false }] ∧ w' = w := Any.strings_Repeat_overflow Tryd.lays105 s c w hc hs hbig
open Go.RowKit Go.Lib in
/-- **strings.Repeat: count ≥ 0, the result within one allocation: count copies of s.** (LAID: no walk: one application.) -/
theorem Tryd.strings_Repeat (s : ByteArray) (c : Nat) (w : World) (hc : c ≤ 9223372036854775807) (hlen : s.size * c ≤ 140737488355328) :
    Calls Tryd.prog 124 #[.string s, .int .i64 c] w fun e w' => e = .returned (.string ⟨(Lib.repeatL s.data.toList c).toArray⟩) ∧ Below w.heap.size w w' := Any.strings_Repeat Tryd.lays105 Tryd.Builder_Extra_105 s c w hc hlen
def Tryd.lays260_ren : Go.Shelf.Ren := ⟨fun | 260 => 162 | n => n, fun | 9 => 9 | 21 => 21 | 3 => 3 | 4 => 4 | 5 => 5 | 119 => 154 | 0 => 0 | 46 => 99 | 139 => 157 | 138 => 156 | n => n, fun | 3 => 0 | 4 => 1 | n => n⟩
theorem Tryd.lays260 : Go.Proofs.Lays.n260 Tryd.prog Tryd.lays260_ren := {
  mixed := by kernel_rfl
  f260 := Tryd.func162.trans (congrArg some (by kernel_rfl))
  t0 := Tryd.underlying0
  a0 := Tryd.isAgg0
  z0 := Tryd.sizeOf0
  v0 := Tryd.zeroValue0
  t3 := Tryd.underlying3
  a3 := Tryd.isAgg3
  z3 := Tryd.sizeOf3
  v3 := Tryd.zeroValue3
  t4 := Tryd.underlying4
  a4 := Tryd.isAgg4
  z4 := Tryd.sizeOf4
  v4 := Tryd.zeroValue4
  t5 := Tryd.underlying5
  a5 := Tryd.isAgg5
  z5 := Tryd.sizeOf5
  v5 := Tryd.zeroValue5
  t9 := Tryd.underlying9
  a9 := Tryd.isAgg9
  z9 := Tryd.sizeOf9
  v9 := Tryd.zeroValue9
  t21 := Tryd.underlying21
  a21 := Tryd.isAgg21
  z21 := Tryd.sizeOf21
  v21 := Tryd.zeroValue21
  t46 := Tryd.underlying99
  a46 := Tryd.isAgg99
  z46 := Tryd.sizeOf99
  v46 := Tryd.zeroValue99
  t119 := Tryd.underlying154
  a119 := Tryd.isAgg154
  z119 := Tryd.sizeOf154
  t138 := Tryd.underlying156
  a138 := Tryd.isAgg156
  z138 := Tryd.sizeOf156
  v138 := Tryd.zeroValue156
  t139 := Tryd.underlying157
  a139 := Tryd.isAgg157
  z139 := Tryd.sizeOf157
  v139 := Tryd.zeroValue157
  g3 := by kernel_rfl
  g4 := by kernel_rfl }
open Go.RowKit Go.Lib in
theorem Tryd.utf8_decodeRuneInStringSlow (s : ByteArray) (w : World) (hT : Lib.Utf8Tabs 0 1 w) :
    Calls Tryd.prog 162 #[.string s] w fun e w' => e = .returned (.tuple #[.int .i32 (Lib.decodeGo s).1, .int .i64 (Lib.decodeGo s).2]) ∧ Below w.heap.size w w' := Any.utf8_decodeRuneInStringSlow Tryd.lays260 s w hT
open Go.RowKit Go.Lib in
/-- **unicode/utf8.DecodeRuneInString AT EVERY STRING.** (LAID: no walk: one application.) -/
theorem Tryd.utf8_DecodeRuneInString (s : ByteArray) (w : World) (hT : Lib.Utf8Tabs 0 1 w) :
    Calls Tryd.prog 153 #[.string s] w fun e w' => e = .returned (.tuple #[.int .i32 (Lib.decodeGo s).1, .int .i64 (Lib.decodeGo s).2]) ∧ Below w.heap.size w w' := Any.utf8_DecodeRuneInString Tryd.lays197 s w hT
def Tryd.lays271_ren : Go.Shelf.Ren := ⟨fun | 271 => 155 | 120 => 164 | 197 => 153 | 260 => 162 | n => n, fun | 9 => 9 | 21 => 21 | 3 => 3 | 4 => 4 | 5 => 5 | 105 => 142 | 119 => 154 | 0 => 0 | 46 => 99 | 139 => 157 | 138 => 156 | n => n, fun | 3 => 0 | 4 => 1 | n => n⟩
theorem Tryd.lays271 : Go.Proofs.Lays.n271 Tryd.prog Tryd.lays271_ren := {
  mixed := by kernel_rfl
  f120 := Tryd.func164.trans (congrArg some (by kernel_rfl))
  f197 := Tryd.func153.trans (congrArg some (by kernel_rfl))
  f260 := Tryd.func162.trans (congrArg some (by kernel_rfl))
  f271 := Tryd.func155.trans (congrArg some (by kernel_rfl))
  t0 := Tryd.underlying0
  a0 := Tryd.isAgg0
  z0 := Tryd.sizeOf0
  v0 := Tryd.zeroValue0
  t3 := Tryd.underlying3
  a3 := Tryd.isAgg3
  z3 := Tryd.sizeOf3
  v3 := Tryd.zeroValue3
  t4 := Tryd.underlying4
  a4 := Tryd.isAgg4
  z4 := Tryd.sizeOf4
  v4 := Tryd.zeroValue4
  t5 := Tryd.underlying5
  a5 := Tryd.isAgg5
  z5 := Tryd.sizeOf5
  v5 := Tryd.zeroValue5
  t9 := Tryd.underlying9
  a9 := Tryd.isAgg9
  z9 := Tryd.sizeOf9
  v9 := Tryd.zeroValue9
  t21 := Tryd.underlying21
  a21 := Tryd.isAgg21
  z21 := Tryd.sizeOf21
  v21 := Tryd.zeroValue21
  t46 := Tryd.underlying99
  a46 := Tryd.isAgg99
  z46 := Tryd.sizeOf99
  v46 := Tryd.zeroValue99
  t105 := Tryd.underlying142
  a105 := Tryd.isAgg142
  z105 := Tryd.sizeOf142
  v105 := Tryd.zeroValue142
  t119 := Tryd.underlying154
  a119 := Tryd.isAgg154
  z119 := Tryd.sizeOf154
  t138 := Tryd.underlying156
  a138 := Tryd.isAgg156
  z138 := Tryd.sizeOf156
  v138 := Tryd.zeroValue156
  t139 := Tryd.underlying157
  a139 := Tryd.isAgg157
  z139 := Tryd.sizeOf157
  v139 := Tryd.zeroValue157
  g3 := by kernel_rfl
  g4 := by kernel_rfl }
open Go.RowKit Go.Lib in
/-- **unicode/utf8.DecodeLastRuneInString AT EVERY STRING.** (LAID: no walk: one application.) -/
theorem Tryd.utf8_DecodeLastRuneInString (s : ByteArray) (w : World) (hs : s.size ≤ 9223372036854775807) (hT : Lib.Utf8Tabs 0 1 w) :
    Calls Tryd.prog 155 #[.string s] w fun e w' => e = .returned (.tuple #[.int .i32 (Lib.decodeLastL s.data.toList).1, .int .i64 (Lib.decodeLastL s.data.toList).2]) ∧ Below w.heap.size w w' := Any.utf8_DecodeLastRuneInString Tryd.lays271 s w hs hT
end Go.Proofs
