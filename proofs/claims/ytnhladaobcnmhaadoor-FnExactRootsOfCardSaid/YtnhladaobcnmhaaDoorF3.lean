/- The Lean functions that the machine tells of the program. -/
import Derived.Shelf.Strings.SlTrimAscii
import Derived.Test.YtnhladaobcnmhaaDoorAbsOpen
namespace Go.Proofs.YtnhladaobcnmhaaDoor.Abs
open Go Go.RowKit
set_option linter.unusedVariables false
set_option linter.unusedSectionVars false
set_option linter.unusedSimpArgs false
noncomputable section
def laws_szStringS.p16 : Nat → List ByteArray → Int → Int → Option (Int)
 | 0, _, _, _ => none
 | k + 1, x0, x1, x5 => (if x5 < (x0.length : Int) then (if 0 ≤ x5 then (if x5 < (x0.length : Int) then (if (wrap64 (x1 - ((rdOf ByteArray.empty x0 x5).size : Int))) < 0 then (some (-1)) else (laws_szStringS.p16 k x0 (wrap64 (x1 - ((rdOf ByteArray.empty x0 x5).size : Int))) (wrap64 (x5 + 1)))) else none) else none) else (some x1))
def laws_szStringS.f (k : Nat) (a0 : List ByteArray) (a1 : Int) : Option (Int) := (if (wrap64 (a1 - (a0.length : Int))) < 0 then (some (-1)) else (laws_szStringS.p16 k a0 (wrap64 (a1 - (a0.length : Int))) 0))
def laws_szConfig.f (k : Nat) (a0_0 : Int) (a0_1 : Int) (a0_2 : Int) (a0_3 : List ByteArray) (a1 : Int) : Option (Int) := ((laws_szStringS.f k a0_3 a1).bind fun t1 => (if t1 < 0 then (some (-1)) else (some t1)))
def laws_toStringS.p8 : Nat → List ByteArray → List ByteArray → Int → Option (List ByteArray)
 | 0, _, _, _ => none
 | k + 1, x0, x3, x4 => (if x4 < (x0.length : Int) then (if 0 ≤ x4 then (if x4 < (x0.length : Int) then (if 0 ≤ x4 then (if x4 < (x3.length : Int) then (laws_toStringS.p8 k x0 (x3.set x4.toNat (rdOf ByteArray.empty x0 x4)) (wrap64 (x4 + 1))) else none) else none) else none) else none) else (some x3))
def laws_toStringS.f (k : Nat) (a0 : List ByteArray) : Option (List ByteArray) := (if 0 ≤ (a0.length : Int) then (if (a0.length : Int).toNat ≤ 17592186044416 then (laws_toStringS.p8 k a0 (List.replicate (a0.length : Int).toNat (⟨#[]⟩ : ByteArray)) 0) else none) else none)
def laws_toConfig.f (k : Nat) (a0_0 : Int) (a0_1 : Int) (a0_2 : Int) (a0_3 : List ByteArray) : Option (Int × Int × Int × List ByteArray) := ((laws_toStringS.f k a0_3).bind fun t1 => (some (a0_0, a0_1, a0_2, t1)))
def spec_l1In.f (a0 : Int) (a1 : Int) (a2 : Int) : Option (Bool) := (if a0 ≥ a1 then (some (decide (a0 ≤ a2))) else (some false))
def spec_l3Type.p6 : Nat → ByteArray → Int → Option (Bool)
 | 0, _, _ => none
 | k + 1, x0, x3 => (if x3 < (x0.size : Int) then (if 0 ≤ x3 then (if x3 < (x0.size : Int) then (if (byteAt x0 x3) = 105 then (spec_l3Type.p6 k x0 (wrap64 (x3 + 1))) else (if 0 ≤ x3 then (if x3 < (x0.size : Int) then (if (byteAt x0 x3) = 114 then (spec_l3Type.p6 k x0 (wrap64 (x3 + 1))) else (some false)) else none) else none)) else none) else none) else ((spec_l1In.f (x0.size : Int) 1 23).bind fun t1 => (some t1)))
def spec_l3Type.f (k : Nat) (a0 : ByteArray) : Option (Bool) := (spec_l3Type.p6 k a0 0)
def spec_TypesOk.p14 : Nat → List ByteArray → Int → Option (Bool)
 | 0, _, _ => none
 | k + 1, x0, x3 => (if x3 < (x0.length : Int) then (if 0 ≤ x3 then (if x3 < (x0.length : Int) then ((spec_l3Type.f k (rdOf ByteArray.empty x0 x3)).bind fun t2 => (if t2 = true then (spec_TypesOk.p14 k x0 (wrap64 (x3 + 1))) else (some false))) else none) else none) else (some true))
def spec_TypesOk.f (k : Nat) (a0 : List ByteArray) : Option (Bool) := ((spec_l1In.f (a0.length : Int) 1 12).bind fun t1 => (if t1 = true then (spec_TypesOk.p14 k a0 0) else (some false)))
def spec_ConfigOk.f (k : Nat) (a0_0 : Int) (a0_1 : Int) (a0_2 : Int) (a0_3 : List ByteArray) : Option (Bool) := ((spec_l1In.f a0_0 8 128).bind fun t1 => (if t1 = true then ((spec_l1In.f a0_1 1 32).bind fun t2 => (if t2 = true then (if a0_1 ≤ (wrap64 (a0_0 - 5)) then ((spec_l1In.f a0_2 2 400).bind fun t3 => (if t3 = true then ((spec_TypesOk.f k a0_3).bind fun t4 => (some t4)) else (some false))) else (some false)) else (some false))) else (some false)))
def spec_l5Image.f (k : Nat) (a0_0 : Int) (a0_1 : Int) (a0_2 : Int) (a0_3 : List ByteArray) (a1 : ByteArray) : Option (Bool) := ((spec_ConfigOk.f k a0_0 a0_1 a0_2 a0_3).bind fun t1 => (if t1 = true then (some (decide ((a1.size : Int) = (wrap64 (64 * a0_0))))) else (some false)))
def spec_ReadWord.p16 : Nat → ByteArray → Int → Int → Option (Int × Bool)
 | 0, _, _, _ => none
 | k + 1, x0, x4, x5 => (if x5 < 8 then (if 0 ≤ x5 then (if x5 < (x0.size : Int) then (spec_ReadWord.p16 k x0 (orA .u64 (shlA .u64 x4 8) (IntKind.wrap .u64 (byteAt x0 x5))) (wrap64 (x5 + 1))) else none) else none) else (some ((wrap64 x4), true)))
def spec_ReadWord.f (k : Nat) (a0 : ByteArray) : Option (Int × Bool) := (if (a0.size : Int) = 8 then (spec_ReadWord.p16 k a0 0 0) else (some (0, false)))
def spec_l9Word.f (k : Nat) (a0 : ByteArray) (a1 : Int) : Option (Int) := (if 0 ≤ (wrap64 ((wrap64 (8 * a1)) + 8)) then (if (wrap64 ((wrap64 (8 * a1)) + 8)) ≤ (a0.size : Int) then (if 0 ≤ (wrap64 (8 * a1)) then (if (wrap64 (8 * a1)) ≤ (wrap64 ((wrap64 (8 * a1)) + 8)) then ((spec_ReadWord.f k (a0.extract (wrap64 (8 * a1)).toNat (wrap64 ((wrap64 (8 * a1)) + 8)).toNat)).bind fun t1 => (some t1.1)) else none) else none) else none) else none)
def spec_l10Slots.p8 : Nat → ByteArray → List Int → Int → Option (List Int)
 | 0, _, _, _ => none
 | k + 1, x0, x3, x4 => (if x4 < 8 then ((spec_l9Word.f k x0 (wrap64 (16 + x4))).bind fun t1 => (if x3.length + 1 ≤ 17592186044416 then (spec_l10Slots.p8 k x0 (x3 ++ ([t1] : List Int)) (wrap64 (x4 + 1))) else none)) else (some x3))
def spec_l10Slots.f (k : Nat) (a0 : ByteArray) : Option (List Int) := (spec_l10Slots.p8 k a0 ([] : List Int) 0)
def spec_RefKind.f (a0 : Int) : Option (Int) := (if a0 = 0 then (some 0) else ((spec_l1In.f a0 2 254).bind fun t1 => (if t1 = true then (if (Int.tmod a0 2) = 0 then (some 1) else ((spec_l1In.f a0 1 799).bind fun t2 => (if t2 = true then (if (Int.tmod a0 2) = 1 then (some 2) else (some (-1))) else (some (-1))))) else ((spec_l1In.f a0 1 799).bind fun t3 => (if t3 = true then (if (Int.tmod a0 2) = 1 then (some 2) else (some (-1))) else (some (-1)))))))
def spec_l10Line.f (a0_0 : Int) (a0_1 : Int) (a0_2 : Int) (a0_3 : List ByteArray) (a1 : Int) : Option (Bool) := ((spec_l1In.f a1 (wrap64 (4 + a0_1)) (wrap64 (a0_0 - 1))).bind fun t1 => (some t1))
def spec_l10Ref.f (a0_0 : Int) (a0_1 : Int) (a0_2 : Int) (a0_3 : List ByteArray) (a1 : Int) : Option (Bool) := (if a1 = 0 then (some true) else ((spec_RefKind.f a1).bind fun t1 => (if t1 = 1 then ((spec_l10Line.f a0_0 a0_1 a0_2 a0_3 (wrap64 (Int.tdiv a1 2))).bind fun t2 => (some t2)) else (some false))))
def spec_l10Refs.p6 : Nat → List Int → Int → Int → Int → List ByteArray → Int → Option (Bool)
 | 0, _, _, _, _, _, _ => none
 | k + 1, x1, x2_0, x2_1, x2_2, x2_3, x5 => (if x5 < (x1.length : Int) then (if 0 ≤ x5 then (if x5 < (x1.length : Int) then ((spec_l10Ref.f x2_0 x2_1 x2_2 x2_3 (rd x1 x5)).bind fun t1 => (if t1 = true then (spec_l10Refs.p6 k x1 x2_0 x2_1 x2_2 x2_3 (wrap64 (x5 + 1))) else (some false))) else none) else none) else (some true))
def spec_l10Refs.f (k : Nat) (a0_0 : Int) (a0_1 : Int) (a0_2 : Int) (a0_3 : List ByteArray) (a1 : List Int) : Option (Bool) := (spec_l10Refs.p6 k a1 a0_0 a0_1 a0_2 a0_3 0)
def spec_RootsOf.f (k : Nat) (a0_0 : Int) (a0_1 : Int) (a0_2 : Int) (a0_3 : List ByteArray) (a1 : ByteArray) : Option (List Int × Bool) := ((spec_l5Image.f k a0_0 a0_1 a0_2 a0_3 a1).bind fun t1 => (if t1 = true then ((spec_l10Slots.f k a1).bind fun t2 => ((spec_l10Refs.f k a0_0 a0_1 a0_2 a0_3 t2).bind fun t3 => (if t3 = true then ((spec_l10Slots.f k a1).bind fun t4 => (some (t4, true))) else (some (([] : List Int), false))))) else (some (([] : List Int), false))))
def impl_within.f (a0 : Int) (a1 : Int) (a2 : Int) : Option (Bool) := (if a0 ≥ a1 then (some (decide (a0 ≤ a2))) else (some false))
def impl_size_string.f (a0 : List ByteArray) : Option (Int) := (some (a0.length : Int))
def strings_Trim.f (a0 a1 : ByteArray) : Option ByteArray :=
  if a0.size ≤ 9223372036854775807 then (if a1.size ≤ 1000 then (if a1.data.toList.all (fun b => decide (b.toNat < 128)) = true then some ⟨(Lib.trimS a0.data.toList a1.data.toList).toArray⟩ else none) else none) else none

def impl_isType.f (a0 : ByteArray) : Option (Bool) := ((impl_within.f (a0.size : Int) 1 23).bind fun t1 => (if t1 = true then ((strings_Trim.f a0 (⟨#[105, 114]⟩ : ByteArray)).bind fun t2 => (some (decide (t2.toList = (⟨#[]⟩ : ByteArray).toList)))) else (some false)))
def impl_TypesOk_1.f (a0 : ByteArray) : Option (Bool) := ((impl_isType.f a0).bind fun t1 => (some (!t1)))
def slices_IndexFunc_string_at_impl_TypesOk_1.p6 : Nat → List ByteArray → Int → Int → Option (Int)
 | 0, _, _, _ => none
 | k + 1, x0, x7, x8 => (if x8 < x7 then (if 0 ≤ x8 then (if x8 < (x0.length : Int) then ((impl_TypesOk_1.f (rdOf ByteArray.empty x0 x8)).bind fun t1 => (if t1 = true then (some x8) else (slices_IndexFunc_string_at_impl_TypesOk_1.p6 k x0 x7 (wrap64 (x8 + 1))))) else none) else none) else (some (-1)))
def slices_IndexFunc_string_at_impl_TypesOk_1.f (k : Nat) (a0 : List ByteArray) : Option (Int) := (slices_IndexFunc_string_at_impl_TypesOk_1.p6 k a0 (a0.length : Int) 0)
def slices_ContainsFunc_string_at_impl_TypesOk_1.f (k : Nat) (a0 : List ByteArray) : Option (Bool) := ((slices_IndexFunc_string_at_impl_TypesOk_1.f k a0).bind fun t1 => (some (decide (t1 ≥ 0))))
def impl_TypesOk.f (k : Nat) (a0 : List ByteArray) : Option (Bool) := ((impl_size_string.f a0).bind fun t1 => ((impl_within.f t1 1 12).bind fun t2 => (if t2 = true then ((slices_ContainsFunc_string_at_impl_TypesOk_1.f k a0).bind fun t3 => (some (!t3))) else (some false))))
def impl_ConfigOk.f (k : Nat) (a0_0 : Int) (a0_1 : Int) (a0_2 : Int) (a0_3 : List ByteArray) : Option (Bool) := ((impl_within.f a0_0 8 128).bind fun t1 => (if t1 = true then ((impl_within.f a0_1 1 (if (wrap64 (a0_0 - 5)) < 32 then (wrap64 (a0_0 - 5)) else 32)).bind fun t2 => (if t2 = true then ((impl_within.f a0_2 2 400).bind fun t3 => (if t3 = true then ((impl_TypesOk.f k a0_3).bind fun t4 => (some t4)) else (some false))) else (some false))) else (some false)))
def impl_isImage.f (k : Nat) (a0_0 : Int) (a0_1 : Int) (a0_2 : Int) (a0_3 : List ByteArray) (a1 : ByteArray) : Option (Bool) := ((impl_ConfigOk.f k a0_0 a0_1 a0_2 a0_3).bind fun t1 => (if t1 = true then (some (decide ((a1.size : Int) = (wrap64 (64 * a0_0))))) else (some false)))
def impl_wordAt.p8 : Nat → ByteArray → Int → Int → Int → Option (Int)
 | 0, _, _, _, _ => none
 | k + 1, x0, x1, x5, x7 => (if x7 < 8 then (if 0 ≤ (wrap64 (x1 + x7)) then (if (wrap64 (x1 + x7)) < (x0.size : Int) then (impl_wordAt.p8 k x0 x1 (orA .i64 (shlA .i64 x5 8) (wrap64 (byteAt x0 (wrap64 (x1 + x7))))) (wrap64 (x7 + 1))) else none) else none) else (some x5))
def impl_wordAt.f (k : Nat) (a0 : ByteArray) (a1 : Int) : Option (Int) := (impl_wordAt.p8 k a0 a1 0 0)
def impl_wordsOf.p8 : Nat → ByteArray → Int → List Int → Int → Option (List Int)
 | 0, _, _, _, _ => none
 | k + 1, x0, x1, x5, x8 => (if x8 < 8 then ((impl_wordAt.f k x0 (wrap64 ((wrap64 (64 * x1)) + (wrap64 (8 * x8))))).bind fun t1 => (if x5.length + 1 ≤ 17592186044416 then (impl_wordsOf.p8 k x0 x1 (x5 ++ ([t1] : List Int)) (wrap64 (x8 + 1))) else none)) else (some x5))
def impl_wordsOf.f (k : Nat) (a0 : ByteArray) (a1 : Int) : Option (List Int) := (impl_wordsOf.p8 k a0 a1 ([] : List Int) 0)
def impl_RefKind.f (a0 : Int) : Option (Int) := (if a0 = 0 then (some 0) else ((impl_within.f a0 2 254).bind fun t1 => (if t1 = true then (if (Int.tmod a0 2) = 0 then (some 1) else ((impl_within.f a0 1 799).bind fun t2 => (if t2 = true then (if (Int.tmod a0 2) = 1 then (some 2) else (some (-1))) else (some (-1))))) else ((impl_within.f a0 1 799).bind fun t3 => (if t3 = true then (if (Int.tmod a0 2) = 1 then (some 2) else (some (-1))) else (some (-1)))))))
def impl_isOld.f (a0 : Int) : Option (Bool) := ((impl_RefKind.f a0).bind fun t1 => (some (decide (t1 = 1))))
def impl_isData.f (a0_0 : Int) (a0_1 : Int) (a0_2 : Int) (a0_3 : List ByteArray) (a1 : Int) : Option (Bool) := ((impl_within.f a1 (wrap64 (4 + a0_1)) (wrap64 (a0_0 - 1))).bind fun t1 => (some t1))
def impl_isDataRef.f (a0_0 : Int) (a0_1 : Int) (a0_2 : Int) (a0_3 : List ByteArray) (a1 : Int) : Option (Bool) := (if a1 = 0 then (some true) else ((impl_isOld.f a1).bind fun t1 => (if t1 = true then ((impl_isData.f a0_0 a0_1 a0_2 a0_3 (wrap64 (Int.tdiv a1 2))).bind fun t2 => (some t2)) else (some false))))
def impl_RootsOf_1.f (a0 : Int) (a1 : Int × Int × Int × List ByteArray) : Option (Bool) := ((impl_isDataRef.f a1.1 a1.2.1 a1.2.2.1 a1.2.2.2 a0).bind fun t1 => (some (!t1)))
def slices_IndexFunc_int64_at_impl_RootsOf_1.p6 : Nat → List Int → Int × Int × Int × List ByteArray → Int → Int → Option (Int)
 | 0, _, _, _, _ => none
 | k + 1, x0, x1_0, x7, x8 => (if x8 < x7 then (if 0 ≤ x8 then (if x8 < (x0.length : Int) then ((impl_RootsOf_1.f (rd x0 x8) x1_0).bind fun t1 => (if t1 = true then (some x8) else (slices_IndexFunc_int64_at_impl_RootsOf_1.p6 k x0 x1_0 x7 (wrap64 (x8 + 1))))) else none) else none) else (some (-1)))
def slices_IndexFunc_int64_at_impl_RootsOf_1.f (k : Nat) (a0 : List Int) (a1_0 : Int × Int × Int × List ByteArray) : Option (Int) := (slices_IndexFunc_int64_at_impl_RootsOf_1.p6 k a0 a1_0 (a0.length : Int) 0)
def slices_ContainsFunc_int64_at_impl_RootsOf_1.f (k : Nat) (a0 : List Int) (a1_0 : Int × Int × Int × List ByteArray) : Option (Bool) := ((slices_IndexFunc_int64_at_impl_RootsOf_1.f k a0 a1_0).bind fun t1 => (some (decide (t1 ≥ 0))))
def impl_RootsOf.f (k : Nat) (a0_0 : Int) (a0_1 : Int) (a0_2 : Int) (a0_3 : List ByteArray) (a1 : ByteArray) : Option (List Int × Bool) := ((impl_isImage.f k a0_0 a0_1 a0_2 a0_3 a1).bind fun t1 => (if t1 = true then ((impl_wordsOf.f k a1 2).bind fun t2 => ((slices_ContainsFunc_int64_at_impl_RootsOf_1.f k t2 (a0_0, (a0_1, (a0_2, a0_3)))).bind fun t3 => (if t3 = true then (some (([] : List Int), false)) else (some (t2, true))))) else (some (([] : List Int), false))))
def laws_eqInt64S.p14 : Nat → List Int → List Int → Int → Option (Bool)
 | 0, _, _, _ => none
 | k + 1, x0, x1, x5 => (if x5 < (x0.length : Int) then (if 0 ≤ x5 then (if x5 < (x0.length : Int) then (if 0 ≤ x5 then (if x5 < (x1.length : Int) then (if (rd x0 x5) = (rd x1 x5) then (laws_eqInt64S.p14 k x0 x1 (wrap64 (x5 + 1))) else (some false)) else none) else none) else none) else none) else (some true))
def laws_eqInt64S.f (k : Nat) (a0 : List Int) (a1 : List Int) : Option (Bool) := (if (a0.length : Int) = (a1.length : Int) then (laws_eqInt64S.p14 k a0 a1 0) else (some false))
def laws_eqStringS.p14 : Nat → List ByteArray → List ByteArray → Int → Option (Bool)
 | 0, _, _, _ => none
 | k + 1, x0, x1, x5 => (if x5 < (x0.length : Int) then (if 0 ≤ x5 then (if x5 < (x0.length : Int) then (if 0 ≤ x5 then (if x5 < (x1.length : Int) then (if (rdOf ByteArray.empty x0 x5).toList = (rdOf ByteArray.empty x1 x5).toList then (laws_eqStringS.p14 k x0 x1 (wrap64 (x5 + 1))) else (some false)) else none) else none) else none) else none) else (some true))
def laws_eqStringS.f (k : Nat) (a0 : List ByteArray) (a1 : List ByteArray) : Option (Bool) := (if (a0.length : Int) = (a1.length : Int) then (laws_eqStringS.p14 k a0 a1 0) else (some false))
def laws_eqConfig.f (k : Nat) (a0_0 : Int) (a0_1 : Int) (a0_2 : Int) (a0_3 : List ByteArray) (a1_0 : Int) (a1_1 : Int) (a1_2 : Int) (a1_3 : List ByteArray) : Option (Bool) := (if a0_0 = a1_0 then (if a0_1 = a1_1 then (if a0_2 = a1_2 then ((laws_eqStringS.f k a0_3 a1_3).bind fun t1 => (if t1 = true then (some true) else (some false))) else (some false)) else (some false)) else (some false))
def laws_markText.p14 : Nat → Int → ByteArray → Option (ByteArray)
 | 0, _, _ => none
 | k + 1, x0, x3 => (if x0 > 0 then (if (strOf ([((wrap64 (48 + (Int.tmod x0 10))) % 256)] : List Int)).size + x3.size ≤ 9223372036854775807 then (laws_markText.p14 k (wrap64 (Int.tdiv x0 10)) ((strOf ([((wrap64 (48 + (Int.tmod x0 10))) % 256)] : List Int)) ++ x3)) else none) else (if (⟨#[109]⟩ : ByteArray).size + x3.size ≤ 9223372036854775807 then (some ((⟨#[109]⟩ : ByteArray) ++ x3)) else none))
def laws_markText.f (k : Nat) (a0 : Int) : Option (ByteArray) := (if a0 ≤ 0 then (some (⟨#[109, 48]⟩ : ByteArray)) else (laws_markText.p14 k a0 (⟨#[]⟩ : ByteArray)))
def laws_markStringS.p6 : Nat → List ByteArray → Int → Int → Option (List ByteArray × Int)
 | 0, _, _, _ => none
 | k + 1, h0, x1, x5 => (if x5 < (h0.length : Int) then ((laws_markText.f k x1).bind fun t1 => (if 0 ≤ x5 then (if x5 < (h0.length : Int) then (laws_markStringS.p6 k (h0.set x5.toNat t1) (wrap64 (x1 + 1)) (wrap64 (x5 + 1))) else none) else none)) else (some (h0, x1)))
def laws_markStringS.f (k : Nat) (a0 : List ByteArray) (a1 : Int) : Option (List ByteArray × Int) := (laws_markStringS.p6 k a0 a1 0)
def laws_markConfig.f (k : Nat) (a0_0 : Int) (a0_1 : Int) (a0_2 : Int) (a0_3 : List ByteArray) (a1 : Int) : Option (List ByteArray × Int) := ((laws_markStringS.f k a0_3 a1).bind fun t1 => (some (t1.1, t1.2)))
def laws_markInt64S.p6 : Nat → List Int → Int → Int → Option (List Int × Int)
 | 0, _, _, _ => none
 | k + 1, h0, x1, x5 => (if x5 < (h0.length : Int) then (if 0 ≤ x5 then (if x5 < (h0.length : Int) then (laws_markInt64S.p6 k (h0.set x5.toNat x1) (wrap64 (x1 + 1)) (wrap64 (x5 + 1))) else none) else none) else (some (h0, x1)))
def laws_markInt64S.f (k : Nat) (a0 : List Int) (a1 : Int) : Option (List Int × Int) := (laws_markInt64S.p6 k a0 a1 0)
def laws_heldInt64S.p6 : Nat → List Int → Int → Int → Option (Int)
 | 0, _, _, _ => none
 | k + 1, x0, x1, x5 => (if x5 < (x0.length : Int) then (if 0 ≤ x5 then (if x5 < (x0.length : Int) then (if (rd x0 x5) = x1 then (laws_heldInt64S.p6 k x0 (wrap64 (x1 + 1)) (wrap64 (x5 + 1))) else (some (-1))) else none) else none) else (some x1))
def laws_heldInt64S.f (k : Nat) (a0 : List Int) (a1 : Int) : Option (Int) := (laws_heldInt64S.p6 k a0 a1 0)
mutual
def laws_FnExactRootsOf.p31 : Nat → ByteArray → Int → Int → Int → List ByteArray → List Int → Bool → Int → Int → Int → List ByteArray → List Int → Bool → Bool → Option (Bool)
 | 0, _, _, _, _, _, _, _, _, _, _, _, _, _, _ => none
 | k + 1, x1, x2_0, x2_1, x2_2, x2_3, x6, x7, x8_0, x8_1, x8_2, x8_3, x9, x10, x47 => (if x47 = true then (some false) else ((laws_toConfig.f k x2_0 x2_1 x2_2 x2_3).bind fun t13 => ((laws_eqConfig.f k x8_0 x8_1 x8_2 x8_3 t13.1 t13.2.1 t13.2.2.1 t13.2.2.2).bind fun t14 => (if t14 = true then ((laws_markConfig.f k x8_0 x8_1 x8_2 x8_3 1).bind fun t15 => (if t15.2 < 0 then (laws_FnExactRootsOf.p51 k x1 x2_0 x2_1 x2_2 x2_3 x6 x7 x9 true) else ((laws_eqInt64S.f k x9 x6).bind fun t16 => (if t16 = true then (laws_FnExactRootsOf.p51 k x1 x2_0 x2_1 x2_2 x2_3 x6 x7 x9 (!decide (x10 = x7))) else (laws_FnExactRootsOf.p51 k x1 x2_0 x2_1 x2_2 x2_3 x6 x7 x9 true))))) else (some false)))))
def laws_FnExactRootsOf.p51 : Nat → ByteArray → Int → Int → Int → List ByteArray → List Int → Bool → List Int → Bool → Option (Bool)
 | 0, _, _, _, _, _, _, _, _, _ => none
 | k + 1, x1, x2_0, x2_1, x2_2, x2_3, x6, x7, x9, x68 => (if x68 = true then (some false) else ((laws_markInt64S.f k x9 1).bind fun t7 => ((laws_heldInt64S.f k t7.1 1).bind fun t8 => (if t8 < 0 then (some false) else (if t8 = t7.2 then ((laws_toConfig.f k x2_0 x2_1 x2_2 x2_3).bind fun t9 => ((impl_RootsOf.f k t9.1 t9.2.1 t9.2.2.1 t9.2.2.2 x1).bind fun t10 => ((laws_eqInt64S.f k t10.1 x6).bind fun t11 => (if t11 = true then (if t10.2 = x7 then ((laws_heldInt64S.f k t7.1 1).bind fun t12 => (if t12 < 0 then (some false) else (if t12 = t7.2 then (some true) else (some false)))) else (some false)) else (some false))))) else (some false))))))
end
def laws_FnExactRootsOf.f (k : Nat) (a0_0 : Int) (a0_1 : Int) (a0_2 : Int) (a0_3 : List ByteArray) (a1 : ByteArray) : Option (Bool) := (if (a1.size : Int) > 1048576 then (some true) else ((laws_szConfig.f k a0_0 a0_1 a0_2 a0_3 1048576).bind fun t1 => (if t1 < 0 then (some true) else ((laws_toConfig.f k a0_0 a0_1 a0_2 a0_3).bind fun t2 => ((spec_RootsOf.f k t2.1 t2.2.1 t2.2.2.1 t2.2.2.2 a1).bind fun t3 => ((laws_toConfig.f k a0_0 a0_1 a0_2 a0_3).bind fun t4 => ((impl_RootsOf.f k t4.1 t4.2.1 t4.2.2.1 t4.2.2.2 a1).bind fun t5 => ((laws_eqInt64S.f k t5.1 t3.1).bind fun t6 => (if t6 = true then (laws_FnExactRootsOf.p31 k a1 a0_0 a0_1 a0_2 a0_3 t3.1 t3.2 t4.1 t4.2.1 t4.2.2.1 t4.2.2.2 t5.1 t5.2 (!decide (t5.2 = t3.2))) else (laws_FnExactRootsOf.p31 k a1 a0_0 a0_1 a0_2 a0_3 t3.1 t3.2 t4.1 t4.2.1 t4.2.2.1 t4.2.2.2 t5.1 t5.2 true))))))))))
/-- What is left to show. -/
def laws_FnExactRootsOf.Pure : Prop := ∀ (x0 : Int × Int × Int × List ByteArray) (x1 : ByteArray), Ty.ok (.pair (.int .i64) (.pair (.int .i64) (.pair (.int .i64) (.sl .str)))) x0 → Ty.ok .str x1 → ∃ k, laws_FnExactRootsOf.f k x0.1 x0.2.1 x0.2.2.1 x0.2.2.2 x1 = some true
end
end Go.Proofs.YtnhladaobcnmhaaDoor.Abs
