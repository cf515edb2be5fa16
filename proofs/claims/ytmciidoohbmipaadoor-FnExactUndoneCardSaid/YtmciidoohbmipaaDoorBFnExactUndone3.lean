/- The Lean functions that the machine tells of the program. (Merged out of this claim's own texts.) -/
import Derived.Test.YtmciidoohbmipaaDoorBFnExactUndone2
import Derived.Shelf.Strings.SlTrimAscii
import Derived.Lib.Repeat
import Derived.Test.YtmciidoohbmipaaDoorProg
import Derived.Shelf.Strings.Builder1
import Derived.Shelf.Strings.Builder2
import Derived.Shelf.Strings.Trim
import Derived.Shelf.Small.Utf8
import Derived.Shelf.Small.Strs
import Derived.Shelf.Strings.BuilderF
import Derived.Shelf.Strings.BuilderK
import Derived.Shelf.Strings.Builder2Cap
import Derived.Shelf.Strings.Search1
import Derived.Shelf.Strings.Prefix
import Derived.Shelf.Unicode.Decode
import Derived.Shelf.Strings.Runes
import Derived.Shelf.Strings.AsciiSet
import Derived.Shelf.Bits.Mul64
import Derived.Shelf.Strings.Repeat
import Derived.Shelf.Unicode.DecodeSlow
import Derived.Shelf.Unicode.DecodeAny
import Derived.Shelf.Unicode.DecodeLast
import Derived.Shelf.Strings.BuilderCap
import Derived.Ground.SlgfProg
import Derived.Shelf.SlicesE.IndexFunc
namespace Go.Proofs.YtmciidoohbmipaaDoor.Abs
open Go Go.RowKit
set_option linter.unusedVariables false
set_option linter.unusedSectionVars false
set_option linter.unusedSimpArgs false
noncomputable section
def spec_ReadShort.f (a0 : ByteArray) : Option (Int × Bool) := (if (a0.size : Int) = 2 then (if 0 < (a0.size : Int) then (if 1 < (a0.size : Int) then (some ((wrap64 ((wrap64 ((wrap64 (byteAt a0 0)) * 256)) + (wrap64 (byteAt a0 1)))), true)) else none) else none) else (some (0, false)))
def spec_l1In.f (a0 : Int) (a1 : Int) (a2 : Int) : Option (Bool) := (if a0 ≥ a1 then (some (decide (a0 ≤ a2))) else (some false))
def spec_l3Type.p6 : Nat → ByteArray → Int → Option (Bool)
 | 0, _, _ => none
 | k + 1, x0, x3 => (if x3 < (x0.size : Int) then (if 0 ≤ x3 then (if x3 < (x0.size : Int) then (if (byteAt x0 x3) = 105 then (spec_l3Type.p6 k x0 (wrap64 (x3 + 1))) else (if 0 ≤ x3 then (if x3 < (x0.size : Int) then (if (byteAt x0 x3) = 114 then (spec_l3Type.p6 k x0 (wrap64 (x3 + 1))) else (some false)) else none) else none)) else none) else none) else ((spec_l1In.f (x0.size : Int) 1 23).bind fun t1 => (some t1)))
def spec_l3Type.f (k : Nat) (a0 : ByteArray) : Option (Bool) := (spec_l3Type.p6 k a0 0)
def spec_TypesOk.p14 : Nat → List ByteArray → Int → Option (Bool)
 | 0, _, _ => none
 | k + 1, x0, x3 => (if x3 < (x0.length : Int) then (if 0 ≤ x3 then (if x3 < (x0.length : Int) then ((spec_l3Type.f k (rdOf ByteArray.empty x0 x3)).bind fun t2 => (if t2 = true then (spec_TypesOk.p14 k x0 (wrap64 (x3 + 1))) else (some false))) else none) else none) else (some true))
def spec_TypesOk.f (k : Nat) (a0 : List ByteArray) : Option (Bool) := ((spec_l1In.f (a0.length : Int) 1 12).bind fun t1 => (if t1 = true then (spec_TypesOk.p14 k a0 0) else (some false)))
def spec_ConfigOk.f (k : Nat) (a0_0 : Int) (a0_1 : Int) (a0_2 : Int) (a0_3 : List ByteArray) : Option (Bool) := ((spec_l1In.f a0_0 8 128).bind fun t1 => (if t1 = true then ((spec_l1In.f a0_1 1 32).bind fun t2 => (if t2 = true then (if a0_1 ≤ (wrap64 (a0_0 - 5)) then ((spec_l1In.f a0_2 2 400).bind fun t3 => (if t3 = true then ((spec_TypesOk.f k a0_3).bind fun t4 => (some t4)) else (some false))) else (some false)) else (some false))) else (some false)))
def spec_WordBytes.p8 : Nat → Int → List Int → Int → Option (ByteArray)
 | 0, _, _, _ => none
 | k + 1, x0, x3, x4 => (if x4 < 8 then (if (IntKind.wrap .u64 (wrap64 (56 - (wrap64 (8 * x4))))) < 0 then none else (if 0 ≤ x4 then (if x4 < (x3.length : Int) then (spec_WordBytes.p8 k x0 (x3.set x4.toNat ((shrA .u64 (IntKind.wrap .u64 x0) (IntKind.wrap .u64 (wrap64 (56 - (wrap64 (8 * x4)))))) % 256)) (wrap64 (x4 + 1))) else none) else none)) else (some (strOf x3)))
def spec_WordBytes.f (k : Nat) (a0 : Int) : Option (ByteArray) := (spec_WordBytes.p8 k a0 (List.replicate 8 (0 : Int)) 0)
def spec_ShortBytes.f (k : Nat) (a0 : Int) : Option (ByteArray) := ((spec_l1In.f a0 0 65535).bind fun t1 => (if t1 = true then ((spec_WordBytes.f k a0).bind fun t2 => (if 6 ≤ (t2.size : Int) then (some (t2.extract 6 (t2.size : Int).toNat)) else none)) else (some (⟨#[]⟩ : ByteArray))))
def spec_l1Zeros.f (a0 : Int) : Option (ByteArray) := (if 0 ≤ a0 then (if a0.toNat ≤ 281474976710656 then (some (strOf (List.replicate a0.toNat (0 : Int)))) else none) else none)
mutual
def spec_l1Crc.p8 : Nat → ByteArray → Int → Int → Option (ByteArray)
 | 0, _, _, _ => none
 | k + 1, x0, x3, x4 => (if x4 < (x0.size : Int) then (if 0 ≤ x4 then (if x4 < (x0.size : Int) then (spec_l1Crc.p22 k x0 (xorA .u32 x3 (IntKind.wrap .u32 (byteAt x0 x4))) x4 0) else none) else none) else (some (strOf ([((shrA .u32 (xorA .u32 4294967295 x3) 24) % 256), ((shrA .u32 (xorA .u32 4294967295 x3) 16) % 256), ((shrA .u32 (xorA .u32 4294967295 x3) 8) % 256), ((xorA .u32 4294967295 x3) % 256)] : List Int))))
def spec_l1Crc.p22 : Nat → ByteArray → Int → Int → Int → Option (ByteArray)
 | 0, _, _, _, _ => none
 | k + 1, x0, x3, x4, x5 => (if x5 < 8 then (if (Int.tmod x3 2) = 1 then (spec_l1Crc.p22 k x0 (xorA .u32 (shrA .u32 x3 1) 3988292384) x4 (wrap64 (x5 + 1))) else (spec_l1Crc.p22 k x0 (shrA .u32 x3 1) x4 (wrap64 (x5 + 1)))) else (spec_l1Crc.p8 k x0 x3 (wrap64 (x4 + 1))))
end
def spec_l1Crc.f (k : Nat) (a0 : ByteArray) : Option (ByteArray) := (spec_l1Crc.p8 k a0 4294967295 0)
def spec_Sealed.f (k : Nat) (a0 : ByteArray) : Option (ByteArray) := (if (a0.size : Int) > 60 then (some (⟨#[]⟩ : ByteArray)) else ((spec_l1Zeros.f (wrap64 (60 - (a0.size : Int)))).bind fun t1 => (if a0.size + t1.size ≤ 9223372036854775807 then ((spec_l1Crc.f k (a0 ++ t1)).bind fun t2 => (if (a0 ++ t1).size + t2.size ≤ 9223372036854775807 then (some ((a0 ++ t1) ++ t2)) else none)) else none)))
mutual
def spec_l3Super.p8 : Nat → Int → Int → Int → List ByteArray → ByteArray → Int → Option (ByteArray)
 | 0, _, _, _, _, _, _ => none
 | k + 1, x1_0, x1_1, x1_2, x1_3, x3, x4 => (if x4 < (x1_3.length : Int) then (spec_l3Super.p23 k x1_0 x1_1 x1_2 x1_3 x3 x4 0 0) else ((spec_Sealed.f k x3).bind fun t4 => (some t4)))
def spec_l3Super.p23 : Nat → Int → Int → Int → List ByteArray → ByteArray → Int → Int → Int → Option (ByteArray)
 | 0, _, _, _, _, _, _, _, _ => none
 | k + 1, x1_0, x1_1, x1_2, x1_3, x3, x4, x5, x6 => (if 0 ≤ x4 then (if x4 < (x1_3.length : Int) then (if x6 < ((rdOf ByteArray.empty x1_3 x4).size : Int) then (if 0 ≤ x4 then (if x4 < (x1_3.length : Int) then (if 0 ≤ x6 then (if x6 < ((rdOf ByteArray.empty x1_3 x4).size : Int) then (if (byteAt (rdOf ByteArray.empty x1_3 x4) x6) = 114 then (if (IntKind.wrap .u64 x6) < 0 then none else (spec_l3Super.p23 k x1_0 x1_1 x1_2 x1_3 x3 x4 (orA .i64 x5 (shlA .i64 1 (IntKind.wrap .u64 x6))) (wrap64 (x6 + 1)))) else (spec_l3Super.p23 k x1_0 x1_1 x1_2 x1_3 x3 x4 x5 (wrap64 (x6 + 1)))) else none) else none) else none) else none) else (if 0 ≤ x4 then (if x4 < (x1_3.length : Int) then (if x3.size + (strOf ([(((rdOf ByteArray.empty x1_3 x4).size : Int) % 256), ((shrA .i64 x5 16) % 256), ((shrA .i64 x5 8) % 256), (x5 % 256)] : List Int)).size ≤ 9223372036854775807 then (spec_l3Super.p8 k x1_0 x1_1 x1_2 x1_3 (x3 ++ (strOf ([(((rdOf ByteArray.empty x1_3 x4).size : Int) % 256), ((shrA .i64 x5 16) % 256), ((shrA .i64 x5 8) % 256), (x5 % 256)] : List Int))) (wrap64 (x4 + 1))) else none) else none) else none)) else none) else none)
end
def spec_l3Super.f (k : Nat) (a0_0 : Int) (a0_1 : Int) (a0_2 : Int) (a0_3 : List ByteArray) : Option (ByteArray) := ((spec_ShortBytes.f k a0_0).bind fun t1 => (if (⟨#[78, 86, 71, 49]⟩ : ByteArray).size + t1.size ≤ 9223372036854775807 then ((spec_ShortBytes.f k a0_1).bind fun t2 => (if ((⟨#[78, 86, 71, 49]⟩ : ByteArray) ++ t1).size + t2.size ≤ 9223372036854775807 then ((spec_ShortBytes.f k a0_2).bind fun t3 => (if (((⟨#[78, 86, 71, 49]⟩ : ByteArray) ++ t1) ++ t2).size + t3.size ≤ 9223372036854775807 then (if ((((⟨#[78, 86, 71, 49]⟩ : ByteArray) ++ t1) ++ t2) ++ t3).size + (strOf ([((a0_3.length : Int) % 256)] : List Int)).size ≤ 9223372036854775807 then (spec_l3Super.p8 k a0_0 a0_1 a0_2 a0_3 (((((⟨#[78, 86, 71, 49]⟩ : ByteArray) ++ t1) ++ t2) ++ t3) ++ (strOf ([((a0_3.length : Int) % 256)] : List Int))) 0) else none) else none)) else none)) else none))
def spec_SuperLine.f (k : Nat) (a0_0 : Int) (a0_1 : Int) (a0_2 : Int) (a0_3 : List ByteArray) : Option (ByteArray) := ((spec_ConfigOk.f k a0_0 a0_1 a0_2 a0_3).bind fun t1 => (if t1 = true then ((spec_l3Super.f k a0_0 a0_1 a0_2 a0_3).bind fun t2 => (some t2)) else (some (⟨#[]⟩ : ByteArray))))
mutual
def spec_ReadSuper.p22 : Nat → ByteArray → Int → Int → Int → Int → Int → Int → List ByteArray → Int → Option (Int × Int × Int × List ByteArray × Bool)
 | 0, _, _, _, _, _, _, _, _, _ => none
 | k + 1, x0, x2_0, x2_1, x2_2, x4_0, x4_1, x4_2, x4_3, x5 => (if 10 < (x0.size : Int) then (if x5 < (wrap64 (byteAt x0 10)) then (spec_ReadSuper.p26 k x0 x2_0 x2_1 x2_2 x4_0 x4_1 x4_2 x4_3 x5 (decide (x5 < 12))) else (spec_ReadSuper.p26 k x0 x2_0 x2_1 x2_2 x4_0 x4_1 x4_2 x4_3 x5 false)) else none)
def spec_ReadSuper.p26 : Nat → ByteArray → Int → Int → Int → Int → Int → Int → List ByteArray → Int → Bool → Option (Int × Int × Int × List ByteArray × Bool)
 | 0, _, _, _, _, _, _, _, _, _, _ => none
 | k + 1, x0, x2_0, x2_1, x2_2, x4_0, x4_1, x4_2, x4_3, x5, x44 => (if x44 = true then (if 0 ≤ (wrap64 ((wrap64 (11 + (wrap64 (4 * x5)))) + 1)) then (if (wrap64 ((wrap64 (11 + (wrap64 (4 * x5)))) + 1)) < (x0.size : Int) then (if 0 ≤ (wrap64 ((wrap64 (11 + (wrap64 (4 * x5)))) + 2)) then (if (wrap64 ((wrap64 (11 + (wrap64 (4 * x5)))) + 2)) < (x0.size : Int) then (if 0 ≤ (wrap64 ((wrap64 (11 + (wrap64 (4 * x5)))) + 3)) then (if (wrap64 ((wrap64 (11 + (wrap64 (4 * x5)))) + 3)) < (x0.size : Int) then (spec_ReadSuper.p41 k x0 x2_0 x2_1 x2_2 x4_0 x4_1 x4_2 x4_3 x5 (wrap64 (11 + (wrap64 (4 * x5)))) (orA .i64 (orA .i64 (shlA .i64 (wrap64 (byteAt x0 (wrap64 ((wrap64 (11 + (wrap64 (4 * x5)))) + 1)))) 16) (shlA .i64 (wrap64 (byteAt x0 (wrap64 ((wrap64 (11 + (wrap64 (4 * x5)))) + 2)))) 8)) (wrap64 (byteAt x0 (wrap64 ((wrap64 (11 + (wrap64 (4 * x5)))) + 3))))) (⟨#[]⟩ : ByteArray) 0) else none) else none) else none) else none) else none) else none) else ((spec_SuperLine.f k x4_0 x4_1 x4_2 x4_3).bind fun t4 => (if t4.toList = x0.toList then (some (x4_0, x4_1, x4_2, x4_3, true)) else (some (0, 0, 0, ([] : List ByteArray), false)))))
def spec_ReadSuper.p41 : Nat → ByteArray → Int → Int → Int → Int → Int → Int → List ByteArray → Int → Int → Int → ByteArray → Int → Option (Int × Int × Int × List ByteArray × Bool)
 | 0, _, _, _, _, _, _, _, _, _, _, _, _, _ => none
 | k + 1, x0, x2_0, x2_1, x2_2, x4_0, x4_1, x4_2, x4_3, x5, x6, x7, x8, x9 => (if 0 ≤ x6 then (if x6 < (x0.size : Int) then (if x9 < (wrap64 (byteAt x0 x6)) then (spec_ReadSuper.p45 k x0 x2_0 x2_1 x2_2 x4_0 x4_1 x4_2 x4_3 x5 x6 x7 x8 x9 (decide (x9 < 24))) else (spec_ReadSuper.p45 k x0 x2_0 x2_1 x2_2 x4_0 x4_1 x4_2 x4_3 x5 x6 x7 x8 x9 false)) else none) else none)
def spec_ReadSuper.p45 : Nat → ByteArray → Int → Int → Int → Int → Int → Int → List ByteArray → Int → Int → Int → ByteArray → Int → Bool → Option (Int × Int × Int × List ByteArray × Bool)
 | 0, _, _, _, _, _, _, _, _, _, _, _, _, _, _ => none
 | k + 1, x0, x2_0, x2_1, x2_2, x4_0, x4_1, x4_2, x4_3, x5, x6, x7, x8, x9, x78 => (if x78 = true then (if (IntKind.wrap .u64 x9) < 0 then none else (if (andA .i64 (shrA .i64 x7 (IntKind.wrap .u64 x9)) 1) = 1 then (if x8.size + (⟨#[114]⟩ : ByteArray).size ≤ 9223372036854775807 then (spec_ReadSuper.p41 k x0 x2_0 x2_1 x2_2 x4_0 x4_1 x4_2 x4_3 x5 x6 x7 (x8 ++ (⟨#[114]⟩ : ByteArray)) (wrap64 (x9 + 1))) else none) else (if x8.size + (⟨#[105]⟩ : ByteArray).size ≤ 9223372036854775807 then (spec_ReadSuper.p41 k x0 x2_0 x2_1 x2_2 x4_0 x4_1 x4_2 x4_3 x5 x6 x7 (x8 ++ (⟨#[105]⟩ : ByteArray)) (wrap64 (x9 + 1))) else none))) else (if x4_3.length + 1 ≤ 8796093022208 then (spec_ReadSuper.p22 k x0 x2_0 x2_1 x2_2 x4_0 x4_1 x4_2 (x4_3 ++ ([x8] : List ByteArray)) (wrap64 (x5 + 1))) else none))
end
def spec_ReadSuper.f (k : Nat) (a0 : ByteArray) : Option (Int × Int × Int × List ByteArray × Bool) := (if (a0.size : Int) = 64 then (if 6 ≤ (a0.size : Int) then ((spec_ReadShort.f (a0.extract 4 6)).bind fun t1 => (if 8 ≤ (a0.size : Int) then ((spec_ReadShort.f (a0.extract 6 8)).bind fun t2 => (if 10 ≤ (a0.size : Int) then ((spec_ReadShort.f (a0.extract 8 10)).bind fun t3 => (spec_ReadSuper.p22 k a0 0 0 0 t1.1 t2.1 t3.1 ([] : List ByteArray) 0)) else none)) else none)) else none) else (some (0, 0, 0, ([] : List ByteArray), false)))
def spec_ConfigOf.f (k : Nat) (a0 : ByteArray) : Option (Int × Int × Int × List ByteArray × Bool) := (if (a0.size : Int) < 64 then (some (0, 0, 0, ([] : List ByteArray), false)) else (if 64 ≤ (a0.size : Int) then ((spec_ReadSuper.f k (a0.extract 0 64)).bind fun t1 => (if t1.2.2.2.2 = true then (if (a0.size : Int) = (wrap64 (64 * t1.1)) then (some (t1.1, t1.2.1, t1.2.2.1, t1.2.2.2.1, true)) else (some (0, 0, 0, ([] : List ByteArray), false))) else (some (0, 0, 0, ([] : List ByteArray), false)))) else none))
def spec_l5Image.f (k : Nat) (a0_0 : Int) (a0_1 : Int) (a0_2 : Int) (a0_3 : List ByteArray) (a1 : ByteArray) : Option (Bool) := ((spec_ConfigOk.f k a0_0 a0_1 a0_2 a0_3).bind fun t1 => (if t1 = true then (some (decide ((a1.size : Int) = (wrap64 (64 * a0_0))))) else (some false)))
def spec_l5Line.f (a0 : ByteArray) (a1 : Int) : Option (ByteArray) := (if 0 ≤ (wrap64 ((wrap64 (64 * a1)) + 64)) then (if (wrap64 ((wrap64 (64 * a1)) + 64)) ≤ (a0.size : Int) then (if 0 ≤ (wrap64 (64 * a1)) then (if (wrap64 (64 * a1)) ≤ (wrap64 ((wrap64 (64 * a1)) + 64)) then (some (a0.extract (wrap64 (64 * a1)).toNat (wrap64 ((wrap64 (64 * a1)) + 64)).toNat)) else none) else none) else none) else none)
def spec_ReadWord.p16 : Nat → ByteArray → Int → Int → Option (Int × Bool)
 | 0, _, _, _ => none
 | k + 1, x0, x4, x5 => (if x5 < 8 then (if 0 ≤ x5 then (if x5 < (x0.size : Int) then (spec_ReadWord.p16 k x0 (orA .u64 (shlA .u64 x4 8) (IntKind.wrap .u64 (byteAt x0 x5))) (wrap64 (x5 + 1))) else none) else none) else (some ((wrap64 x4), true)))
def spec_ReadWord.f (k : Nat) (a0 : ByteArray) : Option (Int × Bool) := (if (a0.size : Int) = 8 then (spec_ReadWord.p16 k a0 0 0) else (some (0, false)))
def spec_EpochLine.f (k : Nat) (a0 : Int) : Option (ByteArray) := ((spec_l1In.f a0 0 1000000000).bind fun t1 => (if t1 = true then ((spec_WordBytes.f k a0).bind fun t2 => ((spec_Sealed.f k t2).bind fun t3 => (some t3))) else (some (⟨#[]⟩ : ByteArray))))
def spec_ReadEpoch.f (k : Nat) (a0 : ByteArray) : Option (Int × Bool) := (if (a0.size : Int) = 64 then (if 8 ≤ (a0.size : Int) then ((spec_ReadWord.f k (a0.extract 0 8)).bind fun t1 => ((spec_EpochLine.f k t1.1).bind fun t2 => (if t2.toList = a0.toList then (some (t1.1, true)) else (some (0, false))))) else none) else (some (0, false)))
def spec_EpochOf.f (k : Nat) (a0_0 : Int) (a0_1 : Int) (a0_2 : Int) (a0_3 : List ByteArray) (a1 : ByteArray) : Option (Int) := ((spec_l5Image.f k a0_0 a0_1 a0_2 a0_3 a1).bind fun t1 => (if t1 = true then ((spec_l5Line.f a1 1).bind fun t2 => ((spec_ReadEpoch.f k t2).bind fun t3 => (if t3.2 = true then (some t3.1) else (some (-1))))) else (some (-1))))
def spec_RecordLine.p5 : Nat → Int → Int → Int → ByteArray → Bool → Option (ByteArray)
 | 0, _, _, _, _, _ => none
 | k + 1, x1_0, x1_1, x1_2, x1_3, x24 => (if x24 = true then (some (⟨#[]⟩ : ByteArray)) else (if (⟨#[85]⟩ : ByteArray).size + (strOf ([(x1_1 % 256)] : List Int)).size ≤ 9223372036854775807 then ((spec_ShortBytes.f k x1_2).bind fun t4 => (if ((⟨#[85]⟩ : ByteArray) ++ (strOf ([(x1_1 % 256)] : List Int))).size + t4.size ≤ 9223372036854775807 then ((spec_WordBytes.f k x1_0).bind fun t5 => (if (((⟨#[85]⟩ : ByteArray) ++ (strOf ([(x1_1 % 256)] : List Int))) ++ t4).size + t5.size ≤ 9223372036854775807 then (if ((((⟨#[85]⟩ : ByteArray) ++ (strOf ([(x1_1 % 256)] : List Int))) ++ t4) ++ t5).size + x1_3.size ≤ 9223372036854775807 then ((spec_Sealed.f k (((((⟨#[85]⟩ : ByteArray) ++ (strOf ([(x1_1 % 256)] : List Int))) ++ t4) ++ t5) ++ x1_3)).bind fun t6 => (some t6)) else none) else none)) else none)) else none))
def spec_RecordLine.f (k : Nat) (a0_0 : Int) (a0_1 : Int) (a0_2 : Int) (a0_3 : ByteArray) : Option (ByteArray) := ((spec_l1In.f a0_0 0 999999999).bind fun t1 => (if t1 = true then ((spec_l1In.f a0_1 0 31).bind fun t2 => (if t2 = true then ((spec_l1In.f a0_2 0 255).bind fun t3 => (if t3 = true then (spec_RecordLine.p5 k a0_0 a0_1 a0_2 a0_3 (!decide ((a0_3.size : Int) = 32))) else (spec_RecordLine.p5 k a0_0 a0_1 a0_2 a0_3 true))) else (spec_RecordLine.p5 k a0_0 a0_1 a0_2 a0_3 true))) else (spec_RecordLine.p5 k a0_0 a0_1 a0_2 a0_3 true)))
def spec_ReadRecord.f (k : Nat) (a0 : ByteArray) : Option (Int × Int × Int × ByteArray × Bool) := (if (a0.size : Int) = 64 then (if 1 < (a0.size : Int) then (if 44 ≤ (a0.size : Int) then (if 4 ≤ (a0.size : Int) then ((spec_ReadShort.f (a0.extract 2 4)).bind fun t1 => (if 12 ≤ (a0.size : Int) then ((spec_ReadWord.f k (a0.extract 4 12)).bind fun t2 => ((spec_RecordLine.f k t2.1 (wrap64 (byteAt a0 1)) t1.1 (a0.extract 12 44)).bind fun t3 => (if t3.toList = a0.toList then (some (t2.1, (wrap64 (byteAt a0 1)), t1.1, (a0.extract 12 44), true)) else (some (0, 0, 0, (⟨#[]⟩ : ByteArray), false))))) else none)) else none) else none) else none) else (some (0, 0, 0, (⟨#[]⟩ : ByteArray), false)))
def spec_l5Half.f (a0_0 : Int) (a0_1 : Int) (a0_2 : Int) (a0_3 : List ByteArray) (a1 : Int) : Option (Bool) := (if a1 = 4 then (some true) else (if a1 = 5 then (some true) else ((spec_l1In.f a1 (wrap64 (2 * (wrap64 (4 + a0_1)))) (wrap64 ((wrap64 (2 * a0_0)) - 1))).bind fun t1 => (some t1))))
def spec_l5Place.p6 : Nat → List (Int × Int × Int × ByteArray) → Int → Int → Option (Int)
 | 0, _, _, _ => none
 | k + 1, x0, x1, x5 => (if x5 < (x0.length : Int) then (if 0 ≤ x5 then (if x5 < (x0.length : Int) then (if (rdOf (0, (0, (0, ByteArray.empty))) x0 x5).2.2.1 = x1 then (some x5) else (spec_l5Place.p6 k x0 x1 (wrap64 (x5 + 1)))) else none) else none) else (some (-1)))
def spec_l5Place.f (k : Nat) (a0 : List (Int × Int × Int × ByteArray)) (a1 : Int) : Option (Int) := (spec_l5Place.p6 k a0 a1 0)
mutual
def spec_LogOf.p18 : Nat → ByteArray → Int → Int → Int → List ByteArray → Int → List (Int × Int × Int × ByteArray) → Int → Option (List (Int × Int × Int × ByteArray) × Bool)
 | 0, _, _, _, _, _, _, _, _ => none
 | k + 1, x1, x2_0, x2_1, x2_2, x2_3, x6, x7, x8 => (if x8 < x2_1 then ((spec_l5Line.f x1 (wrap64 (4 + x8))).bind fun t2 => ((spec_ReadRecord.f k t2).bind fun t3 => (if t3.2.2.2.2 = true then (spec_LogOf.p32 k x1 x2_0 x2_1 x2_2 x2_3 x6 x7 x8 t3.1 t3.2.1 t3.2.2.1 t3.2.2.2.1 t3.2.2.2.2 (decide (t3.1 > x6))) else (spec_LogOf.p32 k x1 x2_0 x2_1 x2_2 x2_3 x6 x7 x8 t3.1 t3.2.1 t3.2.2.1 t3.2.2.2.1 t3.2.2.2.2 false)))) else (some (x7, true)))
def spec_LogOf.p32 : Nat → ByteArray → Int → Int → Int → List ByteArray → Int → List (Int × Int × Int × ByteArray) → Int → Int → Int → Int → ByteArray → Bool → Bool → Option (List (Int × Int × Int × ByteArray) × Bool)
 | 0, _, _, _, _, _, _, _, _, _, _, _, _, _, _ => none
 | k + 1, x1, x2_0, x2_1, x2_2, x2_3, x6, x7, x8, x9_0, x9_1, x9_2, x9_3, x10, x37 => (if x37 = true then (some (([] : List (Int × Int × Int × ByteArray)), false)) else (if x10 = true then (spec_LogOf.p40 k x1 x2_0 x2_1 x2_2 x2_3 x6 x7 x8 x9_0 x9_1 x9_2 x9_3 (!decide (x9_0 = x6))) else (spec_LogOf.p40 k x1 x2_0 x2_1 x2_2 x2_3 x6 x7 x8 x9_0 x9_1 x9_2 x9_3 true)))
def spec_LogOf.p40 : Nat → ByteArray → Int → Int → Int → List ByteArray → Int → List (Int × Int × Int × ByteArray) → Int → Int → Int → Int → ByteArray → Bool → Option (List (Int × Int × Int × ByteArray) × Bool)
 | 0, _, _, _, _, _, _, _, _, _, _, _, _, _ => none
 | k + 1, x1, x2_0, x2_1, x2_2, x2_3, x6, x7, x8, x9_0, x9_1, x9_2, x9_3, x45 => (if x45 = true then (spec_LogOf.p18 k x1 x2_0 x2_1 x2_2 x2_3 x6 x7 (wrap64 (x8 + 1))) else (if x8 = (x7.length : Int) then (if x9_1 = x8 then ((spec_l5Half.f x2_0 x2_1 x2_2 x2_3 x9_2).bind fun t4 => (if t4 = true then ((spec_l5Place.f k x7 x9_2).bind fun t5 => (spec_LogOf.p46 k x1 x2_0 x2_1 x2_2 x2_3 x6 x7 x8 x9_0 x9_1 x9_2 x9_3 (decide (t5 ≥ 0)))) else (spec_LogOf.p46 k x1 x2_0 x2_1 x2_2 x2_3 x6 x7 x8 x9_0 x9_1 x9_2 x9_3 true))) else (spec_LogOf.p46 k x1 x2_0 x2_1 x2_2 x2_3 x6 x7 x8 x9_0 x9_1 x9_2 x9_3 true)) else (spec_LogOf.p46 k x1 x2_0 x2_1 x2_2 x2_3 x6 x7 x8 x9_0 x9_1 x9_2 x9_3 true)))
def spec_LogOf.p46 : Nat → ByteArray → Int → Int → Int → List ByteArray → Int → List (Int × Int × Int × ByteArray) → Int → Int → Int → Int → ByteArray → Bool → Option (List (Int × Int × Int × ByteArray) × Bool)
 | 0, _, _, _, _, _, _, _, _, _, _, _, _, _ => none
 | k + 1, x1, x2_0, x2_1, x2_2, x2_3, x6, x7, x8, x9_0, x9_1, x9_2, x9_3, x69 => (if x69 = true then (some (([] : List (Int × Int × Int × ByteArray)), false)) else (if x7.length + 1 ≤ 3518437208883 then (spec_LogOf.p18 k x1 x2_0 x2_1 x2_2 x2_3 x6 (x7 ++ ([(x9_0, (x9_1, (x9_2, x9_3)))] : List (Int × Int × Int × ByteArray))) (wrap64 (x8 + 1))) else none))
end
def spec_LogOf.f (k : Nat) (a0_0 : Int) (a0_1 : Int) (a0_2 : Int) (a0_3 : List ByteArray) (a1 : ByteArray) : Option (List (Int × Int × Int × ByteArray) × Bool) := ((spec_EpochOf.f k a0_0 a0_1 a0_2 a0_3 a1).bind fun t1 => (if t1 < 0 then (some (([] : List (Int × Int × Int × ByteArray)), false)) else (spec_LogOf.p18 k a1 a0_0 a0_1 a0_2 a0_3 t1 ([] : List (Int × Int × Int × ByteArray)) 0)))
def spec_l2With.f (a0 : ByteArray) (a1 : Int) (a2 : ByteArray) : Option (ByteArray) := (if 0 ≤ a1 then (if a1 ≤ (a0.size : Int) then (if (a0.extract 0 a1.toNat).size + a2.size ≤ 9223372036854775807 then (if 0 ≤ (wrap64 (a1 + (a2.size : Int))) then (if (wrap64 (a1 + (a2.size : Int))) ≤ (a0.size : Int) then (if ((a0.extract 0 a1.toNat) ++ a2).size + (a0.extract (wrap64 (a1 + (a2.size : Int))).toNat (a0.size : Int).toNat).size ≤ 9223372036854775807 then (some (((a0.extract 0 a1.toNat) ++ a2) ++ (a0.extract (wrap64 (a1 + (a2.size : Int))).toNat (a0.size : Int).toNat))) else none) else none) else none) else none) else none) else none)
def spec_Undone.p26 : Nat → ByteArray → List (Int × Int × Int × ByteArray) → Int → Option (ByteArray × Bool)
 | 0, _, _, _ => none
 | k + 1, x0, x6, x8 => (if x8 ≥ 0 then (if 0 ≤ x8 then (if x8 < (x6.length : Int) then (if 0 ≤ x8 then (if x8 < (x6.length : Int) then ((spec_l2With.f x0 (wrap64 (32 * (rdOf (0, (0, (0, ByteArray.empty))) x6 x8).2.2.1)) (rdOf (0, (0, (0, ByteArray.empty))) x6 x8).2.2.2).bind fun t3 => (spec_Undone.p26 k t3 x6 (wrap64 (x8 - 1)))) else none) else none) else none) else none) else (some (x0, true)))
def spec_Undone.f (k : Nat) (a0 : ByteArray) : Option (ByteArray × Bool) := ((spec_ConfigOf.f k a0).bind fun t1 => (if t1.2.2.2.2 = true then ((spec_LogOf.f k t1.1 t1.2.1 t1.2.2.1 t1.2.2.2.1 a0).bind fun t2 => (if t2.2 = true then (spec_Undone.p26 k a0 t2.1 (wrap64 ((t2.1.length : Int) - 1))) else (some ((⟨#[]⟩ : ByteArray), false)))) else (some ((⟨#[]⟩ : ByteArray), false))))
def impl_bigBytes.p8 : Nat → Int → Int → List Int → Int → Int → Option (ByteArray)
 | 0, _, _, _, _, _ => none
 | k + 1, x0, x1, x5, x10, x11 => (if x11 < x10 then (if 0 ≤ (wrap64 ((wrap64 (x1 - 1)) - x11)) then (if (wrap64 ((wrap64 (x1 - 1)) - x11)) < (x5.length : Int) then (impl_bigBytes.p8 k (shrA .u64 x0 8) x1 (x5.set (wrap64 ((wrap64 (x1 - 1)) - x11)).toNat (x0 % 256)) x10 (wrap64 (x11 + 1))) else none) else none) else (some (strOf x5)))
def impl_bigBytes.f (k : Nat) (a0 : Int) (a1 : Int) : Option (ByteArray) := (if 0 ≤ a1 then (if a1.toNat ≤ 281474976710656 then (impl_bigBytes.p8 k a0 a1 (List.replicate a1.toNat (0 : Int)) ((List.replicate a1.toNat (0 : Int)).length : Int) 0) else none) else none)
mutual
def impl_Crc.p16 : Nat → ByteArray → Int → Int → Int → Option (ByteArray)
 | 0, _, _, _, _ => none
 | k + 1, x0, x3, x10, x11 => (if x11 < x10 then (if 0 ≤ x11 then (if x11 < (x0.size : Int) then (impl_Crc.p32 k x0 (xorA .u32 x3 (IntKind.wrap .u32 (byteAt x0 x11))) x10 x11 0) else none) else none) else ((impl_bigBytes.f k (IntKind.wrap .u64 (xorA .u32 4294967295 x3)) 4).bind fun t1 => (some t1)))
def impl_Crc.p32 : Nat → ByteArray → Int → Int → Int → Int → Option (ByteArray)
 | 0, _, _, _, _, _ => none
 | k + 1, x0, x3, x10, x11, x20 => (if x20 < 8 then (if (andA .u32 x3 1) = 1 then (impl_Crc.p32 k x0 (xorA .u32 (shrA .u32 x3 1) 3988292384) x10 x11 (wrap64 (x20 + 1))) else (impl_Crc.p32 k x0 (shrA .u32 x3 1) x10 x11 (wrap64 (x20 + 1)))) else (impl_Crc.p16 k x0 x3 x10 (wrap64 (x11 + 1))))
end
def impl_Crc.f (k : Nat) (a0 : ByteArray) : Option (ByteArray) := (if (a0.size : Int) > 20000 then (some (⟨#[]⟩ : ByteArray)) else (impl_Crc.p16 k a0 4294967295 (a0.size : Int) 0))
def impl_Unsealed.f (k : Nat) (a0 : ByteArray) : Option (ByteArray × Bool) := (if (a0.size : Int) = 64 then (if 60 ≤ (a0.size : Int) then ((impl_Crc.f k (a0.extract 0 60)).bind fun t1 => (if 60 ≤ (a0.size : Int) then (if t1.toList = (a0.extract 60 (a0.size : Int).toNat).toList then (if 60 ≤ (a0.size : Int) then (some ((a0.extract 0 60), true)) else none) else (some ((⟨#[]⟩ : ByteArray), false))) else none)) else none) else (some ((⟨#[]⟩ : ByteArray), false)))
def impl_ReadShort.f (a0 : ByteArray) : Option (Int × Bool) := (if (a0.size : Int) = 2 then (if 0 < (a0.size : Int) then (if 1 < (a0.size : Int) then (some ((orA .i64 (shlA .i64 (wrap64 (byteAt a0 0)) 8) (wrap64 (byteAt a0 1))), true)) else none) else none) else (some (0, false)))
def impl_within.f (a0 : Int) (a1 : Int) (a2 : Int) : Option (Bool) := (if a0 ≥ a1 then (some (decide (a0 ≤ a2))) else (some false))
def impl_size_string.f (a0 : List ByteArray) : Option (Int) := (some (a0.length : Int))
def strings_Trim.f (a0 a1 : ByteArray) : Option ByteArray :=
  if a0.size ≤ 9223372036854775807 then (if a1.size ≤ 1000 then (if a1.data.toList.all (fun b => decide (b.toNat < 128)) = true then some ⟨(Lib.trimS a0.data.toList a1.data.toList).toArray⟩ else none) else none) else none

def impl_isType.f (a0 : ByteArray) : Option (Bool) := ((impl_within.f (a0.size : Int) 1 23).bind fun t1 => (if t1 = true then ((strings_Trim.f a0 (⟨#[105, 114]⟩ : ByteArray)).bind fun t2 => (some (decide (t2.toList = (⟨#[]⟩ : ByteArray).toList)))) else (some false)))
def impl_TypesOk_1.f (a0 : ByteArray) : Option (Bool) := ((impl_isType.f a0).bind fun t1 => (some (!t1)))
def slices_IndexFunc_string_at_impl_TypesOk_1.p6 : Nat → List ByteArray → Int → Int → Option (Int)
 | 0, _, _, _ => none
 | k + 1, x0, x7, x8 => (if x8 < x7 then (if 0 ≤ x8 then (if x8 < (x0.length : Int) then ((impl_TypesOk_1.f (rdOf ByteArray.empty x0 x8)).bind fun t1 => (if t1 = true then (some x8) else (slices_IndexFunc_string_at_impl_TypesOk_1.p6 k x0 x7 (wrap64 (x8 + 1))))) else none) else none) else (some (-1)))
def slices_IndexFunc_string_at_impl_TypesOk_1.f (k : Nat) (a0 : List ByteArray) : Option (Int) := (slices_IndexFunc_string_at_impl_TypesOk_1.p6 k a0 (a0.length : Int) 0)
def slices_ContainsFunc_string_at_impl_TypesOk_1.f (k : Nat) (a0 : List ByteArray) : Option (Bool) := ((slices_IndexFunc_string_at_impl_TypesOk_1.f k a0).bind fun t1 => (some (decide (t1 ≥ 0))))
def impl_TypesOk.f (k : Nat) (a0 : List ByteArray) : Option (Bool) := ((impl_size_string.f a0).bind fun t1 => ((impl_within.f t1 1 12).bind fun t2 => (if t2 = true then ((slices_ContainsFunc_string_at_impl_TypesOk_1.f k a0).bind fun t3 => (some (!t3))) else (some false))))
def impl_ConfigOk.f (k : Nat) (a0_0 : Int) (a0_1 : Int) (a0_2 : Int) (a0_3 : List ByteArray) : Option (Bool) := ((impl_within.f a0_0 8 128).bind fun t1 => (if t1 = true then ((impl_within.f a0_1 1 (if (wrap64 (a0_0 - 5)) < 32 then (wrap64 (a0_0 - 5)) else 32)).bind fun t2 => (if t2 = true then ((impl_within.f a0_2 2 400).bind fun t3 => (if t3 = true then ((impl_TypesOk.f k a0_3).bind fun t4 => (some t4)) else (some false))) else (some false))) else (some false)))
def impl_ShortBytes.f (a0 : Int) : Option (ByteArray) := ((impl_within.f a0 0 65535).bind fun t1 => (if t1 = true then (some (strOf ([((shrA .i64 a0 8) % 256), (a0 % 256)] : List Int))) else (some (⟨#[]⟩ : ByteArray))))
def strings_Repeat.f (a0 : ByteArray) (a1 : Int) : Option ByteArray :=
  if 0 ≤ a1 then (if a1 ≤ 1048576 then (if a0.size ≤ 1048576 then some ⟨(Lib.repeatL a0.data.toList a1.toNat).toArray⟩ else none) else none) else none

def impl_zeros.f (a0 : Int) : Option (ByteArray) := ((strings_Repeat.f (⟨#[0]⟩ : ByteArray) a0).bind fun t1 => (some t1))
def impl_Sealed.f (k : Nat) (a0 : ByteArray) : Option (ByteArray) := (if (a0.size : Int) > 60 then (some (⟨#[]⟩ : ByteArray)) else ((impl_zeros.f (wrap64 (60 - (a0.size : Int)))).bind fun t1 => (if a0.size + t1.size ≤ 9223372036854775807 then ((impl_Crc.f k (a0 ++ t1)).bind fun t2 => (if (a0 ++ t1).size + t2.size ≤ 9223372036854775807 then (some ((a0 ++ t1) ++ t2)) else none)) else none)))
mutual
def impl_SuperLine.p16 : Nat → ByteArray → List ByteArray → Int → Int → Option (ByteArray)
 | 0, _, _, _, _ => none
 | k + 1, x3, x31, x32, x33 => (if x33 < x32 then (if 0 ≤ x33 then (if x33 < (x31.length : Int) then (impl_SuperLine.p33 k x3 (rdOf ByteArray.empty x31 x33) 0 x31 x32 x33 ((rdOf ByteArray.empty x31 x33).size : Int) 0) else none) else none) else ((impl_Sealed.f k x3).bind fun t5 => (some t5)))
def impl_SuperLine.p33 : Nat → ByteArray → ByteArray → Int → List ByteArray → Int → Int → Int → Int → Option (ByteArray)
 | 0, _, _, _, _, _, _, _, _ => none
 | k + 1, x3, x5, x6, x31, x32, x33, x38, x39 => (if x39 < x38 then (if 0 ≤ x39 then (if x39 < (x5.size : Int) then (if (byteAt x5 x39) = 114 then (if x39 < 0 then none else (impl_SuperLine.p33 k x3 x5 (orA .i64 x6 (shlA .i64 1 x39)) x31 x32 x33 x38 (wrap64 (x39 + 1)))) else (impl_SuperLine.p33 k x3 x5 x6 x31 x32 x33 x38 (wrap64 (x39 + 1)))) else none) else none) else (if x3.size + (strOf ([((x5.size : Int) % 256), ((shrA .i64 x6 16) % 256), ((shrA .i64 x6 8) % 256), (x6 % 256)] : List Int)).size ≤ 9223372036854775807 then (impl_SuperLine.p16 k (x3 ++ (strOf ([((x5.size : Int) % 256), ((shrA .i64 x6 16) % 256), ((shrA .i64 x6 8) % 256), (x6 % 256)] : List Int))) x31 x32 (wrap64 (x33 + 1))) else none))
end
def impl_SuperLine.f (k : Nat) (a0_0 : Int) (a0_1 : Int) (a0_2 : Int) (a0_3 : List ByteArray) : Option (ByteArray) := ((impl_ConfigOk.f k a0_0 a0_1 a0_2 a0_3).bind fun t1 => (if t1 = true then ((impl_ShortBytes.f a0_0).bind fun t2 => (if (⟨#[78, 86, 71, 49]⟩ : ByteArray).size + t2.size ≤ 9223372036854775807 then ((impl_ShortBytes.f a0_1).bind fun t3 => (if ((⟨#[78, 86, 71, 49]⟩ : ByteArray) ++ t2).size + t3.size ≤ 9223372036854775807 then ((impl_ShortBytes.f a0_2).bind fun t4 => (if (((⟨#[78, 86, 71, 49]⟩ : ByteArray) ++ t2) ++ t3).size + t4.size ≤ 9223372036854775807 then (if ((((⟨#[78, 86, 71, 49]⟩ : ByteArray) ++ t2) ++ t3) ++ t4).size + (strOf ([((a0_3.length : Int) % 256)] : List Int)).size ≤ 9223372036854775807 then (impl_SuperLine.p16 k (((((⟨#[78, 86, 71, 49]⟩ : ByteArray) ++ t2) ++ t3) ++ t4) ++ (strOf ([((a0_3.length : Int) % 256)] : List Int))) a0_3 (a0_3.length : Int) 0) else none) else none)) else none)) else none)) else (some (⟨#[]⟩ : ByteArray))))
mutual
def impl_ReadSuper.p7 : Nat → ByteArray → Int → Int → Int → ByteArray → Bool → Option (Int × Int × Int × List ByteArray × Bool)
 | 0, _, _, _, _, _, _ => none
 | k + 1, x0, x2_0, x2_1, x2_2, x4, x23 => (if x23 = true then (some (0, 0, 0, ([] : List ByteArray), false)) else (if 6 ≤ (x4.size : Int) then ((impl_ReadShort.f (x4.extract 4 6)).bind fun t4 => (if 8 ≤ (x4.size : Int) then ((impl_ReadShort.f (x4.extract 6 8)).bind fun t5 => (if 10 ≤ (x4.size : Int) then ((impl_ReadShort.f (x4.extract 8 10)).bind fun t6 => (if 10 < (x4.size : Int) then (impl_ReadSuper.p24 k x0 x2_0 x2_1 x2_2 x4 t4.1 t5.1 t6.1 ([] : List ByteArray) (wrap64 (byteAt x4 10)) 0) else none)) else none)) else none)) else none))
def impl_ReadSuper.p24 : Nat → ByteArray → Int → Int → Int → ByteArray → Int → Int → Int → List ByteArray → Int → Int → Option (Int × Int × Int × List ByteArray × Bool)
 | 0, _, _, _, _, _, _, _, _, _, _, _ => none
 | k + 1, x0, x2_0, x2_1, x2_2, x4, x6_0, x6_1, x6_2, x6_3, x49, x50 => (if x50 < x49 then (if 0 ≤ (wrap64 (15 + (wrap64 (4 * x50)))) then (if (wrap64 (15 + (wrap64 (4 * x50)))) ≤ (x4.size : Int) then (if 0 ≤ (wrap64 (11 + (wrap64 (4 * x50)))) then (if (wrap64 (11 + (wrap64 (4 * x50)))) ≤ (wrap64 (15 + (wrap64 (4 * x50)))) then (if 1 < ((x4.extract (wrap64 (11 + (wrap64 (4 * x50)))).toNat (wrap64 (15 + (wrap64 (4 * x50)))).toNat).size : Int) then (if 2 < ((x4.extract (wrap64 (11 + (wrap64 (4 * x50)))).toNat (wrap64 (15 + (wrap64 (4 * x50)))).toNat).size : Int) then (if 3 < ((x4.extract (wrap64 (11 + (wrap64 (4 * x50)))).toNat (wrap64 (15 + (wrap64 (4 * x50)))).toNat).size : Int) then (if 0 < ((x4.extract (wrap64 (11 + (wrap64 (4 * x50)))).toNat (wrap64 (15 + (wrap64 (4 * x50)))).toNat).size : Int) then (impl_ReadSuper.p45 k x0 x2_0 x2_1 x2_2 x4 x6_0 x6_1 x6_2 x6_3 (orA .i64 (orA .i64 (shlA .i64 (wrap64 (byteAt (x4.extract (wrap64 (11 + (wrap64 (4 * x50)))).toNat (wrap64 (15 + (wrap64 (4 * x50)))).toNat) 1)) 16) (shlA .i64 (wrap64 (byteAt (x4.extract (wrap64 (11 + (wrap64 (4 * x50)))).toNat (wrap64 (15 + (wrap64 (4 * x50)))).toNat) 2)) 8)) (wrap64 (byteAt (x4.extract (wrap64 (11 + (wrap64 (4 * x50)))).toNat (wrap64 (15 + (wrap64 (4 * x50)))).toNat) 3))) ([] : List Int) x49 x50 (wrap64 (byteAt (x4.extract (wrap64 (11 + (wrap64 (4 * x50)))).toNat (wrap64 (15 + (wrap64 (4 * x50)))).toNat) 0)) 0) else none) else none) else none) else none) else none) else none) else none) else none) else ((impl_ConfigOk.f k x6_0 x6_1 x6_2 x6_3).bind fun t2 => (if t2 = true then ((impl_SuperLine.f k x6_0 x6_1 x6_2 x6_3).bind fun t3 => (if t3.toList = x0.toList then (some (x6_0, x6_1, x6_2, x6_3, true)) else (some (0, 0, 0, ([] : List ByteArray), false)))) else (some (0, 0, 0, ([] : List ByteArray), false)))))
def impl_ReadSuper.p45 : Nat → ByteArray → Int → Int → Int → ByteArray → Int → Int → Int → List ByteArray → Int → List Int → Int → Int → Int → Int → Option (Int × Int × Int × List ByteArray × Bool)
 | 0, _, _, _, _, _, _, _, _, _, _, _, _, _, _, _ => none
 | k + 1, x0, x2_0, x2_1, x2_2, x4, x6_0, x6_1, x6_2, x6_3, x9, x10, x49, x50, x77, x78 => (if x78 < x77 then (if x78 < 0 then none else (if (andA .i64 (shrA .i64 x9 x78) 1) = 1 then (if x10.length + 1 ≤ 140737488355328 then (impl_ReadSuper.p45 k x0 x2_0 x2_1 x2_2 x4 x6_0 x6_1 x6_2 x6_3 x9 (x10 ++ ([114] : List Int)) x49 x50 x77 (wrap64 (x78 + 1))) else none) else (if x10.length + 1 ≤ 140737488355328 then (impl_ReadSuper.p45 k x0 x2_0 x2_1 x2_2 x4 x6_0 x6_1 x6_2 x6_3 x9 (x10 ++ ([105] : List Int)) x49 x50 x77 (wrap64 (x78 + 1))) else none))) else (if x6_3.length + 1 ≤ 8796093022208 then (impl_ReadSuper.p24 k x0 x2_0 x2_1 x2_2 x4 x6_0 x6_1 x6_2 (x6_3 ++ ([(strOf x10)] : List ByteArray)) x49 (wrap64 (x50 + 1))) else none))
end
def impl_ReadSuper.f (k : Nat) (a0 : ByteArray) : Option (Int × Int × Int × List ByteArray × Bool) := ((impl_Unsealed.f k a0).bind fun t1 => (if t1.2 = true then (if 10 < (t1.1.size : Int) then (impl_ReadSuper.p7 k a0 0 0 0 t1.1 (decide ((byteAt t1.1 10) > 12))) else none) else (impl_ReadSuper.p7 k a0 0 0 0 t1.1 true)))
def impl_isImage.f (k : Nat) (a0_0 : Int) (a0_1 : Int) (a0_2 : Int) (a0_3 : List ByteArray) (a1 : ByteArray) : Option (Bool) := ((impl_ConfigOk.f k a0_0 a0_1 a0_2 a0_3).bind fun t1 => (if t1 = true then (some (decide ((a1.size : Int) = (wrap64 (64 * a0_0))))) else (some false)))
def impl_ConfigOf.f (k : Nat) (a0 : ByteArray) : Option (Int × Int × Int × List ByteArray × Bool) := (if (a0.size : Int) < 64 then (some (0, 0, 0, ([] : List ByteArray), false)) else (if 64 ≤ (a0.size : Int) then ((impl_ReadSuper.f k (a0.extract 0 64)).bind fun t1 => (if t1.2.2.2.2 = true then ((impl_isImage.f k t1.1 t1.2.1 t1.2.2.1 t1.2.2.2.1 a0).bind fun t2 => (if t2 = true then (some (t1.1, t1.2.1, t1.2.2.1, t1.2.2.2.1, true)) else (some (0, 0, 0, ([] : List ByteArray), false)))) else (some (0, 0, 0, ([] : List ByteArray), false)))) else none))
def impl_lineOf.f (a0 : ByteArray) (a1 : Int) : Option (ByteArray) := (if 0 ≤ (wrap64 ((wrap64 (64 * a1)) + 64)) then (if (wrap64 ((wrap64 (64 * a1)) + 64)) ≤ (a0.size : Int) then (if 0 ≤ (wrap64 (64 * a1)) then (if (wrap64 (64 * a1)) ≤ (wrap64 ((wrap64 (64 * a1)) + 64)) then (some (a0.extract (wrap64 (64 * a1)).toNat (wrap64 ((wrap64 (64 * a1)) + 64)).toNat)) else none) else none) else none) else none)
def impl_wordAt.p8 : Nat → ByteArray → Int → Int → Int → Option (Int)
 | 0, _, _, _, _ => none
 | k + 1, x0, x1, x5, x7 => (if x7 < 8 then (if 0 ≤ (wrap64 (x1 + x7)) then (if (wrap64 (x1 + x7)) < (x0.size : Int) then (impl_wordAt.p8 k x0 x1 (orA .i64 (shlA .i64 x5 8) (wrap64 (byteAt x0 (wrap64 (x1 + x7))))) (wrap64 (x7 + 1))) else none) else none) else (some x5))
def impl_wordAt.f (k : Nat) (a0 : ByteArray) (a1 : Int) : Option (Int) := (impl_wordAt.p8 k a0 a1 0 0)
def impl_WordBytes.f (k : Nat) (a0 : Int) : Option (ByteArray) := ((impl_bigBytes.f k (IntKind.wrap .u64 a0) 8).bind fun t1 => (some t1))
def impl_EpochLine.f (k : Nat) (a0 : Int) : Option (ByteArray) := ((impl_within.f a0 0 1000000000).bind fun t1 => (if t1 = true then ((impl_WordBytes.f k a0).bind fun t2 => ((impl_Sealed.f k t2).bind fun t3 => (some t3))) else (some (⟨#[]⟩ : ByteArray))))
def impl_ReadEpoch.f (k : Nat) (a0 : ByteArray) : Option (Int × Bool) := ((impl_Unsealed.f k a0).bind fun t1 => (if t1.2 = true then ((impl_wordAt.f k t1.1 0).bind fun t2 => ((impl_within.f t2 0 1000000000).bind fun t3 => (if t3 = true then ((impl_EpochLine.f k t2).bind fun t4 => (if t4.toList = a0.toList then (some (t2, true)) else (some (0, false)))) else (some (0, false))))) else (some (0, false))))
def impl_EpochOf.f (k : Nat) (a0_0 : Int) (a0_1 : Int) (a0_2 : Int) (a0_3 : List ByteArray) (a1 : ByteArray) : Option (Int) := ((impl_isImage.f k a0_0 a0_1 a0_2 a0_3 a1).bind fun t1 => (if t1 = true then ((impl_lineOf.f a1 1).bind fun t2 => ((impl_ReadEpoch.f k t2).bind fun t3 => (if t3.2 = true then (some t3.1) else (some (-1))))) else (some (-1))))
def impl_RecordLine.p5 : Nat → Int → Int → Int → ByteArray → Bool → Option (ByteArray)
 | 0, _, _, _, _, _ => none
 | k + 1, x1_0, x1_1, x1_2, x1_3, x24 => (if x24 = true then (some (⟨#[]⟩ : ByteArray)) else (if (⟨#[85]⟩ : ByteArray).size + (strOf ([(x1_1 % 256)] : List Int)).size ≤ 9223372036854775807 then ((impl_ShortBytes.f x1_2).bind fun t4 => (if ((⟨#[85]⟩ : ByteArray) ++ (strOf ([(x1_1 % 256)] : List Int))).size + t4.size ≤ 9223372036854775807 then ((impl_WordBytes.f k x1_0).bind fun t5 => (if (((⟨#[85]⟩ : ByteArray) ++ (strOf ([(x1_1 % 256)] : List Int))) ++ t4).size + t5.size ≤ 9223372036854775807 then (if ((((⟨#[85]⟩ : ByteArray) ++ (strOf ([(x1_1 % 256)] : List Int))) ++ t4) ++ t5).size + x1_3.size ≤ 9223372036854775807 then ((impl_Sealed.f k (((((⟨#[85]⟩ : ByteArray) ++ (strOf ([(x1_1 % 256)] : List Int))) ++ t4) ++ t5) ++ x1_3)).bind fun t6 => (some t6)) else none) else none)) else none)) else none))
def impl_RecordLine.f (k : Nat) (a0_0 : Int) (a0_1 : Int) (a0_2 : Int) (a0_3 : ByteArray) : Option (ByteArray) := ((impl_within.f a0_0 0 999999999).bind fun t1 => (if t1 = true then ((impl_within.f a0_1 0 31).bind fun t2 => (if t2 = true then ((impl_within.f a0_2 0 255).bind fun t3 => (if t3 = true then (impl_RecordLine.p5 k a0_0 a0_1 a0_2 a0_3 (!decide ((a0_3.size : Int) = 32))) else (impl_RecordLine.p5 k a0_0 a0_1 a0_2 a0_3 true))) else (impl_RecordLine.p5 k a0_0 a0_1 a0_2 a0_3 true))) else (impl_RecordLine.p5 k a0_0 a0_1 a0_2 a0_3 true)))
def impl_ReadRecord.f (k : Nat) (a0 : ByteArray) : Option (Int × Int × Int × ByteArray × Bool) := ((impl_Unsealed.f k a0).bind fun t1 => (if t1.2 = true then (if 1 < (t1.1.size : Int) then ((impl_wordAt.f k t1.1 4).bind fun t2 => (if 44 ≤ (t1.1.size : Int) then (if 4 ≤ (t1.1.size : Int) then ((impl_ReadShort.f (t1.1.extract 2 4)).bind fun t3 => ((impl_RecordLine.f k t2 (wrap64 (byteAt t1.1 1)) t3.1 (t1.1.extract 12 44)).bind fun t4 => (if t4.toList = a0.toList then (some (t2, (wrap64 (byteAt t1.1 1)), t3.1, (t1.1.extract 12 44), true)) else (some (0, 0, 0, (⟨#[]⟩ : ByteArray), false))))) else none) else none)) else none) else (some (0, 0, 0, (⟨#[]⟩ : ByteArray), false))))
def impl_LogOf_1.f (a0_0 : Int) (a0_1 : Int) (a0_2 : Int) (a0_3 : ByteArray) (a1 : Int × Int × Int × ByteArray) : Option (Bool) := (some (decide (a0_2 = a1.2.2.1)))
def slices_IndexFunc_implRecord_at_impl_LogOf_1.p6 : Nat → List (Int × Int × Int × ByteArray) → Int × Int × Int × ByteArray → Int → Int → Option (Int)
 | 0, _, _, _, _ => none
 | k + 1, x0, x1_0, x7, x8 => (if x8 < x7 then (if 0 ≤ x8 then (if x8 < (x0.length : Int) then ((impl_LogOf_1.f (rdOf (0, (0, (0, ByteArray.empty))) x0 x8).1 (rdOf (0, (0, (0, ByteArray.empty))) x0 x8).2.1 (rdOf (0, (0, (0, ByteArray.empty))) x0 x8).2.2.1 (rdOf (0, (0, (0, ByteArray.empty))) x0 x8).2.2.2 x1_0).bind fun t1 => (if t1 = true then (some x8) else (slices_IndexFunc_implRecord_at_impl_LogOf_1.p6 k x0 x1_0 x7 (wrap64 (x8 + 1))))) else none) else none) else (some (-1)))
def slices_IndexFunc_implRecord_at_impl_LogOf_1.f (k : Nat) (a0 : List (Int × Int × Int × ByteArray)) (a1_0 : Int × Int × Int × ByteArray) : Option (Int) := (slices_IndexFunc_implRecord_at_impl_LogOf_1.p6 k a0 a1_0 (a0.length : Int) 0)
def slices_ContainsFunc_implRecord_at_impl_LogOf_1.f (k : Nat) (a0 : List (Int × Int × Int × ByteArray)) (a1_0 : Int × Int × Int × ByteArray) : Option (Bool) := ((slices_IndexFunc_implRecord_at_impl_LogOf_1.f k a0 a1_0).bind fun t1 => (some (decide (t1 ≥ 0))))
def impl_size_implRecord.f (a0 : List (Int × Int × Int × ByteArray)) : Option (Int) := (some (a0.length : Int))
def impl_canLog.f (a0_0 : Int) (a0_1 : Int) (a0_2 : Int) (a0_3 : List ByteArray) (a1 : Int) : Option (Bool) := ((impl_within.f a1 4 5).bind fun t1 => (if t1 = true then (some true) else ((impl_within.f a1 (wrap64 (2 * (wrap64 (4 + a0_1)))) (wrap64 ((wrap64 (2 * a0_0)) - 1))).bind fun t2 => (some t2))))
mutual
def impl_LogOf.p18 : Nat → ByteArray → Int → Int → Int → List ByteArray → Int → List (Int × Int × Int × ByteArray) → Int → Int → Option (List (Int × Int × Int × ByteArray) × Bool)
 | 0, _, _, _, _, _, _, _, _, _ => none
 | k + 1, x1, x2_0, x2_1, x2_2, x2_3, x6, x7, x19, x20 => (if x20 < x19 then ((impl_lineOf.f x1 (wrap64 (4 + x20))).bind fun t2 => ((impl_ReadRecord.f k t2).bind fun t3 => (if t3.2.2.2.2 = true then (impl_LogOf.p34 k x1 x2_0 x2_1 x2_2 x2_3 x6 x7 x20 t3.1 t3.2.1 t3.2.2.1 t3.2.2.2.1 x19 x20 (decide (t3.1 < x6))) else (impl_LogOf.p34 k x1 x2_0 x2_1 x2_2 x2_3 x6 x7 x20 t3.1 t3.2.1 t3.2.2.1 t3.2.2.2.1 x19 x20 true)))) else (some (x7, true)))
def impl_LogOf.p34 : Nat → ByteArray → Int → Int → Int → List ByteArray → Int → List (Int × Int × Int × ByteArray) → Int → Int → Int → Int → ByteArray → Int → Int → Bool → Option (List (Int × Int × Int × ByteArray) × Bool)
 | 0, _, _, _, _, _, _, _, _, _, _, _, _, _, _, _ => none
 | k + 1, x1, x2_0, x2_1, x2_2, x2_3, x6, x7, x8, x9_0, x9_1, x9_2, x9_3, x19, x20, x38 => (if x38 = true then (impl_LogOf.p18 k x1 x2_0 x2_1 x2_2 x2_3 x6 x7 x19 (wrap64 (x20 + 1))) else ((slices_ContainsFunc_implRecord_at_impl_LogOf_1.f k x7 (x9_0, (x9_1, (x9_2, x9_3)))).bind fun t4 => (if x9_0 > x6 then (impl_LogOf.p42 k x1 x2_0 x2_1 x2_2 x2_3 x6 x7 x9_0 x9_1 x9_2 x9_3 x19 x20 true) else ((impl_size_implRecord.f x7).bind fun t5 => (if t5 = x8 then (if x9_1 = x8 then ((impl_canLog.f x2_0 x2_1 x2_2 x2_3 x9_2).bind fun t6 => (if t6 = true then (impl_LogOf.p42 k x1 x2_0 x2_1 x2_2 x2_3 x6 x7 x9_0 x9_1 x9_2 x9_3 x19 x20 t4) else (impl_LogOf.p42 k x1 x2_0 x2_1 x2_2 x2_3 x6 x7 x9_0 x9_1 x9_2 x9_3 x19 x20 true))) else (impl_LogOf.p42 k x1 x2_0 x2_1 x2_2 x2_3 x6 x7 x9_0 x9_1 x9_2 x9_3 x19 x20 true)) else (impl_LogOf.p42 k x1 x2_0 x2_1 x2_2 x2_3 x6 x7 x9_0 x9_1 x9_2 x9_3 x19 x20 true))))))
def impl_LogOf.p42 : Nat → ByteArray → Int → Int → Int → List ByteArray → Int → List (Int × Int × Int × ByteArray) → Int → Int → Int → ByteArray → Int → Int → Bool → Option (List (Int × Int × Int × ByteArray) × Bool)
 | 0, _, _, _, _, _, _, _, _, _, _, _, _, _, _ => none
 | k + 1, x1, x2_0, x2_1, x2_2, x2_3, x6, x7, x9_0, x9_1, x9_2, x9_3, x19, x20, x67 => (if x67 = true then (some (([] : List (Int × Int × Int × ByteArray)), false)) else (if x7.length + 1 ≤ 3518437208883 then (impl_LogOf.p18 k x1 x2_0 x2_1 x2_2 x2_3 x6 (x7 ++ ([(x9_0, (x9_1, (x9_2, x9_3)))] : List (Int × Int × Int × ByteArray))) x19 (wrap64 (x20 + 1))) else none))
end
def impl_LogOf.f (k : Nat) (a0_0 : Int) (a0_1 : Int) (a0_2 : Int) (a0_3 : List ByteArray) (a1 : ByteArray) : Option (List (Int × Int × Int × ByteArray) × Bool) := ((impl_EpochOf.f k a0_0 a0_1 a0_2 a0_3 a1).bind fun t1 => (if t1 < 0 then (some (([] : List (Int × Int × Int × ByteArray)), false)) else (impl_LogOf.p18 k a1 a0_0 a0_1 a0_2 a0_3 t1 ([] : List (Int × Int × Int × ByteArray)) a0_1 0)))
def impl_replaced.f (a0 : ByteArray) (a1 : Int) (a2 : ByteArray) : Option (ByteArray) := (if 0 ≤ a1 then (if a1 ≤ (a0.size : Int) then (if (a0.extract 0 a1.toNat).size + a2.size ≤ 9223372036854775807 then (if 0 ≤ (wrap64 (a1 + (a2.size : Int))) then (if (wrap64 (a1 + (a2.size : Int))) ≤ (a0.size : Int) then (if ((a0.extract 0 a1.toNat) ++ a2).size + (a0.extract (wrap64 (a1 + (a2.size : Int))).toNat (a0.size : Int).toNat).size ≤ 9223372036854775807 then (some (((a0.extract 0 a1.toNat) ++ a2) ++ (a0.extract (wrap64 (a1 + (a2.size : Int))).toNat (a0.size : Int).toNat))) else none) else none) else none) else none) else none) else none)
def impl_undone.p26 : Nat → ByteArray → Int → Int → Int → Int → Int → Int → List ByteArray → List (Int × Int × Int × ByteArray) → Int → Option (Int × Int × Int × List ByteArray × ByteArray × Bool)
 | 0, _, _, _, _, _, _, _, _, _, _ => none
 | k + 1, x0, x2_0, x2_1, x2_2, x5_0, x5_1, x5_2, x5_3, x7, x8 => (if x8 ≥ 0 then (if 0 ≤ x8 then (if x8 < (x7.length : Int) then (if 0 ≤ x8 then (if x8 < (x7.length : Int) then ((impl_replaced.f x0 (wrap64 (32 * (rdOf (0, (0, (0, ByteArray.empty))) x7 x8).2.2.1)) (rdOf (0, (0, (0, ByteArray.empty))) x7 x8).2.2.2).bind fun t3 => (impl_undone.p26 k t3 x2_0 x2_1 x2_2 x5_0 x5_1 x5_2 x5_3 x7 (wrap64 (x8 - 1)))) else none) else none) else none) else none) else (some (x5_0, x5_1, x5_2, x5_3, x0, true)))
def impl_undone.f (k : Nat) (a0 : ByteArray) : Option (Int × Int × Int × List ByteArray × ByteArray × Bool) := ((impl_ConfigOf.f k a0).bind fun t1 => (if t1.2.2.2.2 = true then ((impl_LogOf.f k t1.1 t1.2.1 t1.2.2.1 t1.2.2.2.1 a0).bind fun t2 => (if t2.2 = true then (impl_undone.p26 k a0 0 0 0 t1.1 t1.2.1 t1.2.2.1 t1.2.2.2.1 t2.1 (wrap64 ((t2.1.length : Int) - 1))) else (some (0, 0, 0, ([] : List ByteArray), (⟨#[]⟩ : ByteArray), false)))) else (some (0, 0, 0, ([] : List ByteArray), (⟨#[]⟩ : ByteArray), false))))
def impl_Undone.f (k : Nat) (a0 : ByteArray) : Option (ByteArray × Bool) := ((impl_undone.f k a0).bind fun t1 => (some (t1.2.2.2.2.1, t1.2.2.2.2.2)))
def laws_FnExactUndone.f (k : Nat) (a0 : ByteArray) : Option (Bool) := (if (a0.size : Int) > 1048576 then (some true) else ((spec_Undone.f k a0).bind fun t1 => ((impl_Undone.f k a0).bind fun t2 => (if t2.1.toList = t1.1.toList then (if t2.2 = t1.2 then (some true) else (some false)) else (some false)))))
/-- What is left to show. -/
def laws_FnExactUndone.Pure : Prop := ∀ (x0 : ByteArray), Ty.ok .str x0 → ∃ k, laws_FnExactUndone.f k x0 = some true
end
end Go.Proofs.YtmciidoohbmipaaDoor.Abs
namespace Go.Proofs.YtmciidoohbmipaaDoor.Abs.Pu
open Go Go.RowKit
set_option linter.unusedVariables false
set_option linter.unusedSectionVars false
set_option linter.unusedSimpArgs false
theorem spec_WordBytes_ev (n : Int) : Ev (fun k => spec_WordBytes.f k n) (wordB n) := by
  have hu : 0 ≤ IntKind.u64.wrap n ∧ IntKind.u64.wrap n < 18446744073709551616 := by rw [wrap_u64]; omega
  have set1 : ∀ (u : Int) (i : Nat), i < 8 → ((wordL u).take i ++ List.replicate (8 - i) 0).set i (byte8 u i) = (wordL u).take (i + 1) ++ List.replicate (8 - (i + 1)) 0 := by
    intro u i hi
    obtain rfl | rfl | rfl | rfl | rfl | rfl | rfl | rfl : i = 0 ∨ i = 1 ∨ i = 2 ∨ i = 3 ∨ i = 4 ∨ i = 5 ∨ i = 6 ∨ i = 7 := by omega
    all_goals rfl
  have lp : ∀ (d i : Nat), 8 - i = d → i ≤ 8 → Ev (fun k => spec_WordBytes.p8 k n ((wordL (IntKind.u64.wrap n)).take i ++ List.replicate (8 - i) 0) (i : Int)) (wordB n) := by
    intro d
    induction d with
    | zero =>
      intro i hd hi
      obtain rfl : i = 8 := by omega
      refine Ev.step (fun k => by rw [spec_WordBytes.p8]) ?_
      refine Ev.neg (by decide) (Ev.eq ?_)
      rfl
    | succ d ih =>
      intro i hd hi
      have hi8 : i < 8 := by omega
      have hl : ((wordL (IntKind.u64.wrap n)).take i ++ List.replicate (8 - i) 0).length = 8 := by
        rw [List.length_append, List.length_take, List.length_replicate, show (wordL (IntKind.u64.wrap n)).length = 8 from rfl]; omega
      have ih := ih (i + 1) (by omega) (by omega)
      rw [← set1 _ i hi8] at ih
      refine Ev.step (fun k => by rw [spec_WordBytes.p8]) ?_
      rw [w64 (x := 8 * (i : Int)) (by omega) (by omega), w64 (x := 56 - 8 * (i : Int)) (by omega) (by omega), show IntKind.u64.wrap (56 - 8 * (i : Int)) = ((56 - 8 * i : Nat) : Int) from by rw [wrap_u64]; omega,
        show wrap64 ((i : Int) + 1) = ((i + 1 : Nat) : Int) from by rw [w64 (by omega) (by omega)]; omega, Int.toNat_natCast,
        show shrA .u64 (IntKind.u64.wrap n) ((56 - 8 * i : Nat) : Int) % 256 = byte8 (IntKind.u64.wrap n) i from by
          unfold shrA byte8
          rw [Int.toNat_natCast, show min (56 - 8 * i) IntKind.u64.bits = 56 - 8 * i from Nat.min_eq_left (by show 56 - 8 * i ≤ 64; omega)]]
      exact Ev.pos (by omega) (Ev.neg (by omega) (Ev.pos (by omega) (Ev.pos (by rw [hl]; omega) ih)))
  unfold spec_WordBytes.f
  exact lp 8 0 rfl (by omega)
theorem impl_bigBytes_ev (u : Int) (h0 : 0 ≤ u) : Ev (fun k => impl_bigBytes.f k u 8) (strOfNums (wordL u)) := by
  have set1 : ∀ (i : Nat), i < 8 → (List.replicate (8 - i) 0 ++ (wordL u).drop (8 - i)).set (7 - i) (byte8 u (7 - i)) = List.replicate (8 - (i + 1)) 0 ++ (wordL u).drop (8 - (i + 1)) := by
    intro i hi
    obtain rfl | rfl | rfl | rfl | rfl | rfl | rfl | rfl : i = 0 ∨ i = 1 ∨ i = 2 ∨ i = 3 ∨ i = 4 ∨ i = 5 ∨ i = 6 ∨ i = 7 := by omega
    all_goals rfl
  have lp : ∀ (d i : Nat), 8 - i = d → i ≤ 8 → Ev (fun k => impl_bigBytes.p8 k (u / 2 ^ (8 * i)) 8 (List.replicate (8 - i) 0 ++ (wordL u).drop (8 - i)) 8 (i : Int)) (strOfNums (wordL u)) := by
    intro d
    induction d with
    | zero =>
      intro i hd hi
      obtain rfl : i = 8 := by omega
      refine Ev.step (fun k => by rw [impl_bigBytes.p8]) ?_
      refine Ev.neg (by decide) (Ev.eq ?_)
      rfl
    | succ d ih =>
      intro i hd hi
      have hi8 : i < 8 := by omega
      have hl : (List.replicate (8 - i) 0 ++ (wordL u).drop (8 - i)).length = 8 := by
        rw [List.length_append, List.length_drop, List.length_replicate, show (wordL u).length = 8 from rfl]; omega
      have ih := ih (i + 1) (by omega) (by omega)
      rw [← set1 i hi8] at ih
      refine Ev.step (fun k => by rw [impl_bigBytes.p8]) ?_
      rw [w64 (x := 8 - 1) (by omega) (by omega), w64 (x := 8 - 1 - (i : Int)) (by omega) (by omega), show (8 - 1 - (i : Int)) = ((7 - i : Nat) : Int) from by omega,
        show wrap64 ((i : Int) + 1) = ((i + 1 : Nat) : Int) from by rw [w64 (by omega) (by omega)]; omega, Int.toNat_natCast,
        show u / 2 ^ (8 * i) % 256 = byte8 u (7 - i) from by unfold byte8; rw [show 56 - 8 * (7 - i) = 8 * i from by omega],
        show shrA .u64 (u / 2 ^ (8 * i)) 8 = u / 2 ^ (8 * (i + 1)) from by
          show u / 2 ^ (8 * i) / 2 ^ 8 = _
          rw [Int.ediv_ediv_of_nonneg (Int.pow_nonneg (by decide)), show (8 * (i + 1)) = 8 * i + 8 from by omega, Int.pow_add]]
      exact Ev.pos (by omega) (Ev.pos (by omega) (Ev.pos (by rw [hl]; omega) ih))
  unfold impl_bigBytes.f
  refine Ev.pos (by decide) (Ev.pos (by decide) ?_)
  have h := lp 8 0 rfl (by omega)
  rw [Nat.mul_zero, Int.pow_zero, Int.ediv_one] at h
  exact h
theorem impl_WordBytes_ev (n : Int) : Ev (fun k => impl_WordBytes.f k n) (wordB n) := by
  unfold impl_WordBytes.f
  exact Ev.bind (impl_bigBytes_ev _ (by rw [wrap_u64]; omega)) (Ev.eq rfl)
end Go.Proofs.YtmciidoohbmipaaDoor.Abs.Pu
namespace Go.Proofs.YtmciidoohbmipaaDoor.Abs.Pu
open Go Go.RowKit
set_option linter.unusedVariables false
set_option linter.unusedSectionVars false
set_option linter.unusedSimpArgs false
theorem repeat_zero (n : Nat) : Lib.repeatL [0] n = List.replicate n 0 := by
  induction n with
  | zero => rfl
  | succ n ih => rw [Lib.repeatL, ih]; rfl
def zerosB (n : Nat) : ByteArray := strOfNums (List.replicate n 0)
theorem zerosB_size (n : Nat) : (zerosB n).size = n := by rw [zerosB, strOfNums_size, List.length_replicate]
theorem bytesOf_zerosB (n : Nat) : bytesOf (zerosB n) = List.replicate n 0 := bytesOf_strOfNums (isBytes_replicate n)
def mapOk (s : ByteArray) : Prop := s.size = 64 ∧ s.extract 16 s.size = zerosB 48
instance (s : ByteArray) : Decidable (mapOk s) := by unfold mapOk; infer_instance
/-- Is line n taken. -/
def tkn (s : ByteArray) (n : Int) : Bool := bitL (bytesOf s) n.toNat
theorem and_one {x : Int} (h0 : 0 ≤ x) (h1 : x ≤ 255) : Go.bits .and .u8 x 1 = x % 2 := by
  have h := Go.bits_mask .u8 8 (by decide) Go.wraps_u8 1 (by decide) x h0 (by omega)
  simpa using h
theorem div_range {x : Int} (h0 : 0 ≤ x) (h1 : x ≤ 255) (r : Nat) : 0 ≤ x / 2 ^ r ∧ x / 2 ^ r ≤ 255 := by
  have hp : (0 : Int) < 2 ^ r := Int.pow_pos (by decide)
  exact ⟨Int.ediv_nonneg h0 (by omega), Int.le_trans (Int.ediv_le_self _ h0) h1⟩
/-! ### lines -/
/-- The taken ones of the lines i, .., i + d - 1. -/
def linesFrom (t : Int → Bool) (i : Int) : Nat → List Int
  | 0 => []
  | d + 1 => if t i then i :: linesFrom t (i + 1) d else linesFrom t (i + 1) d
theorem linesFrom_length (t : Int → Bool) : ∀ (d : Nat) (i : Int), (linesFrom t i d).length ≤ d
  | 0, i => by simp [linesFrom]
  | d + 1, i => by
    have h := linesFrom_length t d (i + 1)
    simp only [linesFrom]
    split
    · simp; omega
    · omega
def linesOf (s : ByteArray) : List Int := if mapOk s then linesFrom (tkn s) 0 128 else []
def turn1 (xs : List Int) (i : Nat) : List Int := xs.set (i / 8) (Go.bits .xor .u8 (xs.getD (i / 8) 0) (2 ^ (i % 8) % 256))
def turnL (xs : List Int) (a : Nat) : Nat → List Int
  | 0 => xs
  | n + 1 => turn1 (turnL xs a n) (a + n)
theorem turnL_length (xs : List Int) (a : Nat) : ∀ n, (turnL xs a n).length = xs.length
  | 0 => rfl
  | n + 1 => by simp [turnL, turn1, turnL_length xs a n]
theorem turnL_next (xs : List Int) (a i : Nat) (h : a ≤ i) : turnL xs a (i + 1 - a) = turn1 (turnL xs a (i - a)) i := by
  rw [show i + 1 - a = (i - a) + 1 from by omega, turnL, show a + (i - a) = i from by omega]
def change1 (xs : List Int) (i : Nat) (t : Bool) : List Int :=
  if t = true then (xs.set (i / 8) (Go.bits .andNot .u8 (xs.getD (i / 8) 0) (2 ^ (i % 8) % 256))).set (i / 8) (Go.bits .or .u8 (Go.bits .andNot .u8 (xs.getD (i / 8) 0) (2 ^ (i % 8) % 256)) (2 ^ (i % 8) % 256))
  else xs.set (i / 8) (Go.bits .andNot .u8 (xs.getD (i / 8) 0) (2 ^ (i % 8) % 256))
def changeL (xs : List Int) (a : Nat) (t : Bool) : Nat → List Int
  | 0 => xs
  | n + 1 => change1 (changeL xs a t n) (a + n) t
theorem changeL_length (xs : List Int) (a : Nat) (t : Bool) : ∀ n, (changeL xs a t n).length = xs.length
  | 0 => rfl
  | n + 1 => by
    have ih := changeL_length xs a t n
    simp only [changeL, change1]
    split <;> simp [ih]
theorem changeL_next (xs : List Int) (a : Nat) (t : Bool) (i : Nat) (h : a ≤ i) : changeL xs a t (i + 1 - a) = change1 (changeL xs a t (i - a)) i t := by
  rw [show i + 1 - a = (i - a) + 1 from by omega, changeL, show a + (i - a) = i from by omega]
/-- What turning a bit changes. -/
theorem turn1_bit {xs : List Int} (hx : isBytes xs) {i : Nat} (hi : i / 8 < xs.length) (j : Nat) : bitL (turn1 xs i) j = (bitL xs j != decide (j = i)) := by
  unfold turn1
  have hb := isBytes_getD hx (i / 8)
  have h := (byte_xor hb.1 hb.2 (show i % 8 < 8 by omega)).2 (j % 8) (by omega)
  rw [bitL_set hi]
  split
  · rename_i e
    rw [h]
    unfold bitL
    rw [e]
    congr 1
    exact decide_eq_decide.2 (by omega)
  · rename_i e
    rw [show decide (j = i) = false from decide_eq_false (fun q => e (by rw [q]))]
    simp
theorem turn1_isBytes {xs : List Int} (hx : isBytes xs) (i : Nat) : isBytes (turn1 xs i) := by
  have hb := isBytes_getD hx (i / 8)
  have h := (byte_xor hb.1 hb.2 (show i % 8 < 8 by omega)).1
  exact isBytes_set hx _ h.1 h.2
theorem turn1_length (xs : List Int) (i : Nat) : (turn1 xs i).length = xs.length := by simp [turn1]
theorem clear1_bit {xs : List Int} (hx : isBytes xs) {i : Nat} (hi : i / 8 < xs.length) (j : Nat) : bitL (change1 xs i false) j = (bitL xs j && !decide (j = i)) := by
  unfold change1
  rw [if_neg (by simp)]
  have hb := isBytes_getD hx (i / 8)
  have h := (byte_clear hb.1 hb.2 (show i % 8 < 8 by omega)).2 (j % 8) (by omega)
  rw [bitL_set hi]
  split
  · rename_i e
    rw [h]
    unfold bitL
    rw [e]
    congr 2
    exact decide_eq_decide.2 (by omega)
  · rename_i e
    rw [show decide (j = i) = false from decide_eq_false (fun q => e (by rw [q]))]
    simp
theorem set1_bit {xs : List Int} (hx : isBytes xs) {i : Nat} (hi : i / 8 < xs.length) (j : Nat) : bitL (change1 xs i true) j = (bitL xs j || decide (j = i)) := by
  unfold change1
  rw [if_pos rfl]
  have hb := isBytes_getD hx (i / 8)
  have hc := byte_clear hb.1 hb.2 (show i % 8 < 8 by omega)
  have hs := byte_set hc.1.1 hc.1.2 (show i % 8 < 8 by omega)
  rw [bitL_set (by simpa using hi)]
  split
  · rename_i e
    rw [hs.2 _ (by omega), hc.2 _ (by omega)]
    unfold bitL
    rw [e]
    have : decide (j % 8 = i % 8) = decide (j = i) := decide_eq_decide.2 (by omega)
    rw [this]
    cases bitv (xs.getD (i / 8) 0) (j % 8) <;> cases decide (j = i) <;> rfl
  · rename_i e
    rw [bitL_set hi, if_neg e, show decide (j = i) = false from decide_eq_false (fun q => e (by rw [q]))]
    simp
theorem change1_isBytes {xs : List Int} (hx : isBytes xs) (i : Nat) (t : Bool) : isBytes (change1 xs i t) := by
  have hb := isBytes_getD hx (i / 8)
  have hc := byte_clear hb.1 hb.2 (show i % 8 < 8 by omega)
  have hs := byte_set hc.1.1 hc.1.2 (show i % 8 < 8 by omega)
  unfold change1
  split
  · exact isBytes_set (isBytes_set hx _ hc.1.1 hc.1.2) _ hs.1.1 hs.1.2
  · exact isBytes_set hx _ hc.1.1 hc.1.2
theorem change1_length (xs : List Int) (i : Nat) (t : Bool) : (change1 xs i t).length = xs.length := by
  unfold change1
  split <;> simp
theorem turnL_isBytes {xs : List Int} (hx : isBytes xs) (a : Nat) : ∀ n, isBytes (turnL xs a n)
  | 0 => hx
  | n + 1 => turn1_isBytes (turnL_isBytes hx a n) _
theorem changeL_isBytes {xs : List Int} (hx : isBytes xs) (a : Nat) (t : Bool) : ∀ n, isBytes (changeL xs a t n)
  | 0 => hx
  | n + 1 => change1_isBytes (changeL_isBytes hx a t n) _ _
/-- The bits behind a change. -/
theorem changeL_bit {xs : List Int} (hx : isBytes xs) (a : Nat) (t : Bool) : ∀ (n : Nat), a + n ≤ 8 * xs.length → ∀ j, bitL (changeL xs a t n) j = if a ≤ j ∧ j < a + n then t else bitL xs j
  | 0, h, j => by rw [if_neg (by omega)]; rfl
  | n + 1, h, j => by
    have ih := changeL_bit hx a t n (by omega) j
    have hi : (a + n) / 8 < (changeL xs a t n).length := by rw [changeL_length]; omega
    simp only [changeL]
    cases t
    · rw [clear1_bit (changeL_isBytes hx a false n) hi, ih]
      by_cases e : j = a + n
      · subst e; simp
      · rw [show decide (j = a + n) = false from decide_eq_false e]
        by_cases e2 : a ≤ j ∧ j < a + n
        · rw [if_pos e2, if_pos (by omega)]; rfl
        · rw [if_neg e2, if_neg (by omega)]; simp
    · rw [set1_bit (changeL_isBytes hx a true n) hi, ih]
      by_cases e : j = a + n
      · subst e; simp
      · rw [show decide (j = a + n) = false from decide_eq_false e]
        by_cases e2 : a ≤ j ∧ j < a + n
        · rw [if_pos e2, if_pos (by omega)]; rfl
        · rw [if_neg e2, if_neg (by omega)]; simp
theorem turnL_bit {xs : List Int} (hx : isBytes xs) (a : Nat) : ∀ (n : Nat), a + n ≤ 8 * xs.length → ∀ j, bitL (turnL xs a n) j = if a ≤ j ∧ j < a + n then !bitL xs j else bitL xs j
  | 0, h, j => by rw [if_neg (by omega)]; rfl
  | n + 1, h, j => by
    have ih := turnL_bit hx a n (by omega) j
    have hi : (a + n) / 8 < (turnL xs a n).length := by rw [turnL_length]; omega
    simp only [turnL]
    rw [turn1_bit (turnL_isBytes hx a n) hi, ih]
    by_cases e : j = a + n
    · subst e; simp
    · rw [show decide (j = a + n) = false from decide_eq_false e]
      by_cases e2 : a ≤ j ∧ j < a + n
      · rw [if_pos e2, if_pos (by omega)]; simp
      · rw [if_neg e2, if_neg (by omega)]; simp
/-- Where the bits were the other way, turning them is setting (or clearing) them. -/
theorem turn_change {xs : List Int} (hx : isBytes xs) (a n : Nat) (t : Bool) (h : a + n ≤ 8 * xs.length) (hb : ∀ j, a ≤ j → j < a + n → bitL xs j = !t) : turnL xs a n = changeL xs a t n := by
  refine bytes_ext (turnL_isBytes hx a n) (changeL_isBytes hx a t n) (by rw [turnL_length, changeL_length]) (fun j hj => ?_)
  rw [turnL_bit hx a n h, changeL_bit hx a t n h]
  split
  · rename_i c
    rw [hb j c.1 c.2]; simp
  · rfl
/-- All of n lines from a on are taken (t), or all are free. -/
def allAre (s : ByteArray) (t : Bool) (a n : Int) : Prop := ∀ j, a ≤ j → j < a + n → tkn s j = t
theorem allAre_iff (s : ByteArray) (t : Bool) (a n : Nat) : allAre s t a n ↔ ∀ j : Nat, a ≤ j → j < a + n → bitL (bytesOf s) j = t :=
  ⟨fun h j h0 h1 => by have := h (j : Int) (by omega) (by omega); simpa [tkn] using this, fun h j h0 h1 => by
    have := h j.toNat (by omega) (by omega)
    exact this⟩
instance allAre_dec (s : ByteArray) (t : Bool) (a n : Nat) : Decidable (∀ j : Nat, a ≤ j → j < a + n → bitL (bytesOf s) j = t) :=
  decidable_of_iff (∀ i, i < n → bitL (bytesOf s) (a + i) = t) ⟨fun h j h0 h1 => by have := h (j - a) (by omega); rwa [show a + (j - a) = j from by omega] at this, fun h i hi => h (a + i) (by omega) (by omega)⟩
def runOk (s : ByteArray) (a n : Int) : Prop := mapOk s ∧ (1 ≤ n ∧ n ≤ 128) ∧ 0 ≤ a ∧ a ≤ 128 - n
instance (s : ByteArray) (a n : Int) : Decidable (runOk s a n) := by unfold runOk; infer_instance
/-- TakeRun (t = true), GiveRun (t = false). -/
def changed (s : ByteArray) (t : Bool) (a n : Nat) : ByteArray := strOfNums (changeL (bytesOf s) a t n)
def runResult (s : ByteArray) (t : Bool) (a n : Int) : ByteArray × Bool :=
  if runOk s a n then (if ∀ j : Nat, a.toNat ≤ j → j < a.toNat + n.toNat → bitL (bytesOf s) j = !t then (changed s t a.toNat n.toNat, true) else (⟨#[]⟩, false)) else (⟨#[]⟩, false)
end Go.Proofs.YtmciidoohbmipaaDoor.Abs.Pu
namespace Go.Proofs.YtmciidoohbmipaaDoor.Abs.Pu
open Go Go.RowKit
set_option linter.unusedVariables false
set_option linter.unusedSectionVars false
set_option linter.unusedSimpArgs false
theorem impl_zeros_f (n : Nat) (h : n ≤ 1048576) : impl_zeros.f (n : Int) = some (zerosB n) := by
  unfold impl_zeros.f strings_Repeat.f
  rw [if_pos (by omega), if_pos (by omega), if_pos (by decide)]
  simp only [Option.bind_some, Int.toNat_natCast]
  refine congrArg some ?_
  rw [repeat_zero]
  simp [zerosB, strOfNums]
theorem spec_l1Zeros_f (n : Nat) (h : n ≤ 1048576) : spec_l1Zeros.f (n : Int) = some (zerosB n) := by
  unfold spec_l1Zeros.f
  rw [if_pos (by omega), if_pos (by rw [Int.toNat_natCast]; omega), Int.toNat_natCast]
  rfl
end Go.Proofs.YtmciidoohbmipaaDoor.Abs.Pu
namespace Go.Proofs.YtmciidoohbmipaaDoor.Abs
open Go Go.RowKit
set_option linter.unusedVariables false
set_option linter.unusedSectionVars false
set_option linter.unusedSimpArgs false

/-- From the end down. -/
theorem down {P : Nat → Prop} {n : Nat} (h0 : P n) (hs : ∀ i, i < n → P (i + 1) → P i) : ∀ i, i ≤ n → P i := by
  have key : ∀ d i, n - i = d → i ≤ n → P i := by
    intro d
    induction d with
    | zero => intro i hd hi; obtain rfl : i = n := by omega
              exact h0
    | succ d ih => intro i hd hi; exact hs i (by omega) (ih (i + 1) (by omega) (by omega))
  exact fun i hi => key _ i rfl hi
theorem w64s {i : Nat} (h : i ≤ 4611686018427387904) : wrap64 ((i : Int) + 1) = ((i + 1 : Nat) : Int) := by
  rw [w64 (by omega) (by omega)]; omega
theorem rdg {α : Type} {d : α} {l : List α} {i : Nat} (h : i < l.length) : rdOf d l (i : Int) = l[i] := by
  simp [rdOf, List.getD_eq_getElem?_getD, List.getElem?_eq_getElem h]

/-- A list filled place by place. -/
theorem fill_ev {α : Type} {l : List α} {g : Nat → List α → Int → Option (List α)} (z : α)
    (hs : ∀ i (h : i < l.length) (out : List α), out.length = l.length → ∀ r, Ev (fun k => g k (out.set i l[i]) ((i + 1 : Nat) : Int)) r → Ev (fun k => g k out (i : Int)) r)
    (hf : ∀ out : List α, out.length = l.length → Ev (fun k => g k out (l.length : Int)) out) : Ev (fun k => g k (List.replicate l.length z) 0) l := by
  have key : ∀ i, i ≤ l.length → ∀ out : List α, out.length = l.length → (∀ j : Nat, j < i → out[j]? = l[j]?) → Ev (fun k => g k out (i : Int)) l := by
    refine down ?_ ?_
    · intro out ho ht
      have : out = l := List.ext_getElem? fun j => by
        by_cases h : j < l.length
        · exact ht j h
        · rw [List.getElem?_eq_none (by omega), List.getElem?_eq_none (by omega)]
      subst this
      exact hf out ho
    · intro i hi ih out ho ht
      refine hs i hi out ho l (ih _ (by rw [List.length_set]; exact ho) fun j hj => ?_)
      by_cases e : j = i
      · subst e; rw [List.getElem?_set_self (by omega), List.getElem?_eq_getElem hi]
      · rw [List.getElem?_set_ne (fun h => e h.symm)]; exact ht j (by omega)
  exact key 0 (Nat.zero_le _) _ (by simp) (fun j hj => by omega)

/-- A sum of non-negative parts, for the sizes of arguments. -/
theorem sz_loop {α : Type} {l : List α} {ok : α → Prop} {g : Nat → Int → Int → Option Int} (hl : l.length ≤ 4611686018427387904)
    (hs : ∀ i (h : i < l.length) (left : Int), 0 ≤ left → left ≤ 1048576 → (∃ r, r < 0 ∧ Ev (fun k => g k left (i : Int)) r) ∨ ∃ left', 0 ≤ left' ∧ left' ≤ left ∧ ok l[i] ∧ ∀ r, Ev (fun k => g k left' ((i + 1 : Nat) : Int)) r → Ev (fun k => g k left (i : Int)) r)
    (hf : ∀ left : Int, Ev (fun k => g k left (l.length : Int)) left) : ∀ left : Int, 0 ≤ left → left ≤ 1048576 → ∃ r, Ev (fun k => g k left 0) r ∧ (0 ≤ r → r ≤ left ∧ ∀ x ∈ l, ok x) := by
  have key : ∀ i, i ≤ l.length → ∀ left : Int, 0 ≤ left → left ≤ 1048576 → ∃ r, Ev (fun k => g k left (i : Int)) r ∧ (0 ≤ r → r ≤ left ∧ ∀ x ∈ l.drop i, ok x) := by
    refine down ?_ ?_
    · intro left h0 h1
      exact ⟨left, hf left, fun _ => ⟨Int.le_refl _, by simp⟩⟩
    · intro i hi ih left h0 h1
      rcases hs i hi left h0 h1 with ⟨r, hr, he⟩ | ⟨left', a0, a1, ho, hst⟩
      · exact ⟨r, he, fun h => by omega⟩
      · obtain ⟨r, he, hr⟩ := ih left' a0 (by omega)
        refine ⟨r, hst r he, fun h => ⟨by have := (hr h).1; omega, ?_⟩⟩
        rw [List.drop_eq_getElem_cons hi]
        intro x hx
        rcases List.mem_cons.1 hx with rfl | hx
        · exact ho
        · exact (hr h).2 x hx
  intro left h0 h1
  obtain ⟨r, he, hr⟩ := key 0 (Nat.zero_le _) left h0 h1
  exact ⟨r, he, by simpa using hr⟩

/-- The references among an object's values, from one on. -/
def refsB (p : Int → Bool) (t : ByteArray) : Nat → List Int → Bool
  | _, [] => true
  | i, v :: l => if bt t (i : Int) = 114 then p v && refsB p t (i + 1) l else refsB p t (i + 1) l
/-- isObject's loop, at any condition. -/
theorem refs_ev {types : List ByteArray} {vals : List Int} {tp : Int} {p : Int → Bool} {t : Nat → Int → Option Bool} {g : Nat → Int → Option Bool} (h0 : 0 ≤ tp) (h1 : tp < types.length) (hv : vals.length = (rdOf ByteArray.empty types tp).size) (hvl : vals.length ≤ 1099511627776)
    (hg : ∀ k (i : Int), g (k + 1) i = (if i < (vals.length : Int) then (if 0 ≤ i then (if i < (vals.length : Int) then (if 0 ≤ tp then (if tp < (types.length : Int) then (if 0 ≤ i then (if i < ((rdOf ByteArray.empty types tp).size : Int) then (if (byteAt (rdOf ByteArray.empty types tp) i) = 114 then ((t k (rd vals i)).bind fun t3 => (if t3 = true then (g k (wrap64 (i + 1))) else (some false))) else (g k (wrap64 (i + 1)))) else none) else none) else none) else none) else none) else none) else (some true)))
    (ht : ∀ x ∈ vals, Ev (fun k => t k x) (p x)) : Ev (fun k => g k 0) (refsB p (rdOf ByteArray.empty types tp) 0 vals) := by
  have key : ∀ i, i ≤ vals.length → Ev (fun k => g k (i : Int)) (refsB p (rdOf ByteArray.empty types tp) i (vals.drop i)) := by
    refine down ?_ ?_
    · rw [List.drop_eq_nil_of_le (Nat.le_refl _)]
      refine Ev.step (fun k => hg k _) ?_
      exact Ev.neg (by omega) (Ev.eq rfl)
    · intro i hi ih
      refine Ev.step (fun k => hg k _) ?_
      rw [rd_get hi, w64s (by omega), List.drop_eq_getElem_cons hi, refsB]
      refine Ev.pos (by omega) (Ev.pos (by omega) (Ev.pos (by omega) (Ev.pos h0 (Ev.pos h1 (Ev.pos (by omega) (Ev.pos (by omega) ?_))))))
      by_cases c : bt (rdOf ByteArray.empty types tp) (i : Int) = 114
      · rw [if_pos c]
        refine Ev.pos c (Ev.bind (ht _ (List.getElem_mem hi)) (Ev.cases (fun c2 => ?_) (fun c2 => ?_)))
        · rw [c2, Bool.true_and]; exact ih
        · rw [Bool.eq_false_iff.2 c2, Bool.false_and]; exact Ev.eq rfl
      · rw [if_neg c]
        exact Ev.neg c ih
  have h := key 0 (Nat.zero_le _)
  rw [List.drop_zero] at h
  exact h
/-- The same answer from every place on. -/
theorem each_ev {β : Type} {n : Nat} {g : Nat → Int → Option β} {r : β} (hs : ∀ i, i < n → Ev (fun k => g k ((i + 1 : Nat) : Int)) r → Ev (fun k => g k (i : Int)) r) (hf : Ev (fun k => g k (n : Int)) r) : Ev (fun k => g k 0) r :=
  down (P := fun i => Ev (fun k => g k (i : Int)) r) hf hs 0 (Nat.zero_le _)
/-- A condition asked of all elements in order. -/
theorem all_ev {α : Type} {l : List α} {p : α → Bool} {g : Nat → Int → Option Bool}
    (hs : ∀ i (h : i < l.length), (p l[i] = true → ∀ r, Ev (fun k => g k ((i + 1 : Nat) : Int)) r → Ev (fun k => g k (i : Int)) r) ∧ (p l[i] = false → Ev (fun k => g k (i : Int)) false))
    (b : Bool) (hf : Ev (fun k => g k (l.length : Int)) b) : Ev (fun k => g k 0) (l.all p && b) := by
  have key : ∀ i, i ≤ l.length → Ev (fun k => g k (i : Int)) ((l.drop i).all p && b) := by
    refine down ?_ ?_
    · rw [List.drop_eq_nil_of_le (Nat.le_refl _)]
      simpa using hf
    · intro i hi ih
      rw [List.drop_eq_getElem_cons hi, List.all_cons]
      cases c : p l[i] with
      | true => rw [Bool.true_and]; exact (hs i hi).1 c _ ih
      | false => rw [Bool.false_and, Bool.false_and]; exact (hs i hi).2 c
  have h := key 0 (Nat.zero_le _)
  rw [List.drop_zero] at h
  exact h
end Go.Proofs.YtmciidoohbmipaaDoor.Abs
namespace Go.Proofs.YtmciidoohbmipaaDoor.Abs
open Go Go.RowKit
set_option linter.unusedVariables false
set_option linter.unusedSectionVars false
set_option linter.unusedSimpArgs false
theorem l1In_f (a lo hi : Int) : spec_l1In.f a lo hi = some (decide (lo ≤ a) && decide (a ≤ hi)) := by
  unfold spec_l1In.f
  split
  · rename_i h; simp [show lo ≤ a from h]
  · rename_i h; have : ¬ lo ≤ a := h; simp [this]
theorem within_f (a lo hi : Int) : impl_within.f a lo hi = some (decide (lo ≤ a) && decide (a ≤ hi)) := by
  unfold impl_within.f
  split
  · rename_i h; simp [show lo ≤ a from h]
  · rename_i h; have : ¬ lo ≤ a := h; simp [this]
end Go.Proofs.YtmciidoohbmipaaDoor.Abs
namespace Go.Proofs.YtmciidoohbmipaaDoor.Abs.Pu
open Go Go.RowKit
set_option linter.unusedVariables false
set_option linter.unusedSectionVars false
set_option linter.unusedSimpArgs false
def U32 (c : Int) : Prop := 0 ≤ c ∧ c < 4294967296
theorem wrap_u32 (x : Int) : IntKind.u32.wrap x = x % 4294967296 := by simp [IntKind.wrap, IntKind.bits, IntKind.signed]
theorem xor32_range (x y : Int) : U32 (xorA .u32 x y) := by
  unfold xorA U32
  rw [wrap_u32]
  omega
theorem u64_id' {x : Int} (h : U32 x) : IntKind.u64.wrap x = x := by
  rw [wrap_u64]
  unfold U32 at h
  omega
def crcBit (c : Int) : Int := if c % 2 = 1 then xorA .u32 (shrA .u32 c 1) 3988292384 else shrA .u32 c 1
theorem shr1_u32 (x : Int) : shrA .u32 x 1 = x / 2 := rfl
theorem crcBit_range {c : Int} (h : U32 c) : U32 (crcBit c) := by
  unfold crcBit
  split
  · exact xor32_range _ _
  · rw [shr1_u32]
    unfold U32 at h ⊢
    omega
theorem wraps_u32 (n : Int) (h0 : 0 ≤ n) (h1 : n < 2 ^ 32) : IntKind.u32.wrap n = n := by
  have e : (2 : Int) ^ 32 = 4294967296 := by decide
  rw [e] at h1
  rw [wrap_u32]
  omega
theorem and1_u32 {x : Int} (h : U32 x) : andA .u32 x 1 = x % 2 := by
  have e : (2 : Int) ^ 32 = 4294967296 := by decide
  have h2 := h.2
  have h := Go.bits_mask .u32 32 (by decide) wraps_u32 1 (by decide) x h.1 (by rw [e]; exact h2)
  simpa [andA_eq] using h
def crcIt : Nat → Int → Int
  | 0, c => c
  | n + 1, c => crcIt n (crcBit c)
theorem crcIt_range : ∀ (n : Nat) {c : Int}, U32 c → U32 (crcIt n c)
  | 0, _, h => h
  | n + 1, _, h => crcIt_range n (crcBit_range h)
def crcFrom (s : ByteArray) : Nat → Nat → Int → Int
  | 0, _, c => c
  | d + 1, i, c => crcFrom s d (i + 1) (crcIt 8 (xorA .u32 c (IntKind.wrap .u32 (bt s (i : Int)))))
theorem crcFrom_range (s : ByteArray) : ∀ (d i : Nat) {c : Int}, U32 c → U32 (crcFrom s d i c)
  | 0, _, _, h => h
  | d + 1, i, c, h => crcFrom_range s d (i + 1) (crcIt_range 8 (xor32_range _ _))
def out4 (v : Int) : ByteArray := strOfNums [v / 16777216 % 256, v / 65536 % 256, v / 256 % 256, v % 256]
def crcB (s : ByteArray) : ByteArray := out4 (xorA .u32 4294967295 (crcFrom s s.size 0 4294967295))
theorem crcB_size (s : ByteArray) : (crcB s).size = 4 := strOfNums_size _
theorem U32_top : U32 4294967295 := by unfold U32; omega
theorem spec_l1Crc_ev (s : ByteArray) (hs : s.size ≤ 20000) : Ev (fun k => spec_l1Crc.f k s) (crcB s) := by
  have inner : ∀ (n j : Nat) (c : Int) (i : Nat) (r : ByteArray), j + n = 8 → U32 c → i ≤ 20000 → Ev (fun k => spec_l1Crc.p8 k s (crcIt n c) ((i + 1 : Nat) : Int)) r → Ev (fun k => spec_l1Crc.p22 k s c (i : Int) (j : Int)) r := by
    intro n
    induction n with
    | zero =>
      intro j c i r hj hc hi hr
      refine Ev.step (fun k => by rw [spec_l1Crc.p22]) ?_
      rw [w64s (i := i) (by omega)]
      exact Ev.neg (by omega) hr
    | succ n ih =>
      intro j c i r hj hc hi hr
      have nx := ih (j + 1) (crcBit c) i r (by omega) (crcBit_range hc) hi hr
      unfold crcBit at nx
      refine Ev.step (fun k => by rw [spec_l1Crc.p22]) ?_
      rw [w64s (i := j) (by omega), Int.tmod_eq_emod_of_nonneg hc.1]
      refine Ev.pos (by omega) ?_
      by_cases k : c % 2 = 1
      · rw [if_pos k] at nx
        exact Ev.pos k nx
      · rw [if_neg k] at nx
        exact Ev.neg k nx
  have outer : ∀ (d i : Nat) (c : Int), i + d = s.size → U32 c → Ev (fun k => spec_l1Crc.p8 k s c (i : Int)) (out4 (xorA .u32 4294967295 (crcFrom s d i c))) := by
    intro d
    induction d with
    | zero =>
      intro i c hi hc
      refine Ev.step (fun k => by rw [spec_l1Crc.p8]) ?_
      exact Ev.neg (by omega) (Ev.eq rfl)
    | succ d ih =>
      intro i c hi hc
      refine Ev.step (fun k => by rw [spec_l1Crc.p8]) ?_
      exact Ev.pos (by omega) (Ev.pos (by omega) (Ev.pos (by omega) (inner 8 0 _ i _ rfl (xor32_range _ _) (by omega) (ih (i + 1) _ (by omega) (crcIt_range 8 (xor32_range _ _))))))
  unfold spec_l1Crc.f
  exact outer s.size 0 4294967295 (by omega) U32_top
def sealT (s : ByteArray) : ByteArray := s ++ zerosB (60 - s.size)
def sealR (s : ByteArray) : ByteArray := sealT s ++ crcB (sealT s)
theorem sealT_size {s : ByteArray} (h : s.size ≤ 60) : (sealT s).size = 60 := by
  unfold sealT
  rw [ByteArray.size_append, zerosB_size]
  omega
theorem sealR_size {s : ByteArray} (h : s.size ≤ 60) : (sealR s).size = 64 := by
  unfold sealR
  rw [ByteArray.size_append, crcB_size, sealT_size h]
theorem spec_Sealed_ev (s : ByteArray) (h : s.size ≤ 60) : Ev (fun k => spec_Sealed.f k s) (sealR s) := by
  have hz := spec_l1Zeros_f (60 - s.size) (by omega)
  have hs := zerosB_size (60 - s.size)
  have ht := sealT_size h
  unfold spec_Sealed.f
  rw [w64 (x := 60 - (s.size : Int)) (by omega) (by omega), show 60 - (s.size : Int) = ((60 - s.size : Nat) : Int) from by omega]
  refine Ev.neg (by omega) (Ev.bindo hz (Ev.pos (by omega) ?_))
  have hc := spec_l1Crc_ev (sealT s) (by omega)
  have hcs := crcB_size (sealT s)
  unfold sealT at hc ht hcs
  exact Ev.bind hc (Ev.pos (by rw [ht, hcs]; omega) (Ev.eq rfl))
end Go.Proofs.YtmciidoohbmipaaDoor.Abs.Pu
namespace Go.Proofs.YtmciidoohbmipaaDoor.Abs
open Go Go.RowKit
set_option linter.unusedVariables false
set_option linter.unusedSectionVars false
set_option linter.unusedSimpArgs false

theorem rdOf_get {α : Type} {d : α} {l : List α} {i : Nat} (h : i < l.length) : rdOf d l (i : Int) = l[i] := by
  simp [rdOf, List.getD_eq_getElem?_getD, List.getElem?_eq_getElem h]

/-- The search: the first place where the test says yes, or -1. -/
theorem index_ev {α : Type} {d : α} {l : List α} (hl : l.length ≤ 1099511627776) {g : Nat → Int → Option Int} {t : Nat → α → Option Bool} {f : α → Bool}
    (hg : ∀ k (i : Int), g (k + 1) i = if i < (l.length : Int) then (if 0 ≤ i then (if i < (l.length : Int) then ((t k (rdOf d l i)).bind fun b => if b = true then some i else g k (wrap64 (i + 1))) else none) else none) else some (-1))
    (ht : ∀ x ∈ l, Ev (fun k => t k x) (f x)) : ∃ r, Ev (fun k => g k 0) r ∧ decide (r ≥ 0) = l.any f := by
  have lp : ∀ (m i : Nat), l.length - i = m → i ≤ l.length → ∃ r, Ev (fun k => g k (i : Int)) r ∧ decide (r ≥ 0) = (l.drop i).any f := by
    intro m
    induction m with
    | zero =>
      intro i hm hi
      rw [List.drop_eq_nil_of_le (by omega)]
      exact ⟨-1, Ev.step (fun k => by rw [hg]) (Ev.neg (by omega) (Ev.eq rfl)), by simp⟩
    | succ m ih =>
      intro i hm hi
      have hlt : i < l.length := by omega
      obtain ⟨r, hr, he⟩ := ih (i + 1) (by omega) (by omega)
      rw [List.drop_eq_getElem_cons hlt, List.any_cons]
      cases c : f l[i] with
      | true =>
        refine ⟨(i : Int), Ev.step (fun k => by rw [hg]) (Ev.pos (by omega) (Ev.pos (by omega) (Ev.pos (by omega) ?_))), by simp⟩
        rw [rdOf_get hlt]
        exact Ev.bind (ht _ (List.getElem_mem hlt)) (Ev.pos c (Ev.eq rfl))
      | false =>
        refine ⟨r, Ev.step (fun k => by rw [hg]) (Ev.pos (by omega) (Ev.pos (by omega) (Ev.pos (by omega) ?_))), by rw [he, Bool.false_or]⟩
        rw [rdOf_get hlt, show wrap64 ((i : Int) + 1) = ((i + 1 : Nat) : Int) from by rw [w64 (by omega) (by omega)]; omega]
        exact Ev.bind (ht _ (List.getElem_mem hlt)) (Ev.neg (by simp [c]) hr)
  obtain ⟨r, h1, h2⟩ := lp _ 0 rfl (Nat.zero_le _)
  exact ⟨r, h1, by rw [h2, List.drop_zero]⟩

/-- ContainsFunc. -/
theorem contains_ev {α : Type} {d : α} {l : List α} (hl : l.length ≤ 1099511627776) {g : Nat → Int → Option Int} {t : Nat → α → Option Bool} {f : α → Bool}
    (hg : ∀ k (i : Int), g (k + 1) i = if i < (l.length : Int) then (if 0 ≤ i then (if i < (l.length : Int) then ((t k (rdOf d l i)).bind fun b => if b = true then some i else g k (wrap64 (i + 1))) else none) else none) else some (-1))
    (ht : ∀ x ∈ l, Ev (fun k => t k x) (f x)) : Ev (fun k => (g k 0).bind fun t1 => some (decide (t1 ≥ 0))) (l.any f) := by
  obtain ⟨r, h1, h2⟩ := index_ev hl hg ht
  exact Ev.bind h1 (Ev.eq h2)
end Go.Proofs.YtmciidoohbmipaaDoor.Abs
namespace Go.Proofs.YtmciidoohbmipaaDoor.Abs
open Go Go.RowKit
set_option linter.unusedVariables false
set_option linter.unusedSectionVars false
set_option linter.unusedSimpArgs false
def kindsOk (l : List UInt8) : Bool := l.all fun b => [105, 114].contains b
def typeOk (s : ByteArray) : Bool := decide (1 ≤ s.size ∧ s.size ≤ 23) && kindsOk s.data.toList
def typesOk (l : List ByteArray) : Bool := decide (1 ≤ l.length ∧ l.length ≤ 12) && l.all typeOk
theorem dropWhile_all {p : UInt8 → Bool} : ∀ l : List UInt8, (∀ x ∈ l.dropWhile p, p x = true) → l.dropWhile p = []
  | [], _ => rfl
  | a :: l, h => by
    by_cases c : p a = true
    · rw [List.dropWhile_cons_of_pos c] at h ⊢
      exact dropWhile_all l h
    · rw [List.dropWhile_cons_of_neg c] at h
      exact absurd (h a (List.mem_cons_self ..)) c
theorem dropWhile_nil_iff {p : UInt8 → Bool} (l : List UInt8) : l.dropWhile p = [] ↔ ∀ x ∈ l, p x = true := by
  constructor
  · intro h
    induction l with
    | nil => simp
    | cons a l ih =>
      by_cases c : p a = true
      · rw [List.dropWhile_cons_of_pos c] at h
        intro x hx
        rcases List.mem_cons.1 hx with rfl | hx
        · exact c
        · exact ih h x hx
      · rw [List.dropWhile_cons_of_neg c] at h
        cases h
  · exact fun h => dropWhile_all l (fun x hx => h x ((List.dropWhile_sublist _).mem hx))
theorem trim_nil (l cs : List UInt8) : Lib.trimS l cs = [] ↔ ∀ x ∈ l, cs.contains x = true := by
  unfold Lib.trimS Lib.trimLeftS Lib.trimRightS
  rw [dropWhile_nil_iff]
  constructor
  · intro h
    have h1 := dropWhile_all (p := fun x => cs.contains x) l.reverse (fun x hx => h x (List.mem_reverse.2 hx))
    rw [dropWhile_nil_iff] at h1
    exact fun x hx => h1 x (List.mem_reverse.2 hx)
  · intro h x hx
    exact h x (List.mem_reverse.1 ((List.dropWhile_sublist _).mem (List.mem_reverse.1 hx)))
theorem isType_f (s : ByteArray) (hs : s.size ≤ 1048576) : impl_isType.f s = some (typeOk s) := by
  unfold impl_isType.f typeOk
  rw [within_f, Option.bind_some]
  by_cases c : 1 ≤ s.size ∧ s.size ≤ 23
  · rw [if_pos (by simp; omega), decide_eq_true c, Bool.true_and]
    have ht : strings_Trim.f s (⟨#[105, 114]⟩ : ByteArray) = some ⟨(Lib.trimS s.data.toList [105, 114]).toArray⟩ := by
      unfold strings_Trim.f
      rw [if_pos (by omega), if_pos (by decide), if_pos (by decide)]
    rw [ht, Option.bind_some]
    congr 1
    rw [Bool.eq_iff_iff, decide_eq_true_iff, ByteArray.toList_eq, ByteArray.toList_eq]
    show (Lib.trimS s.data.toList [105, 114]).toArray.toList = [] ↔ _
    rw [trim_nil, kindsOk, List.all_eq_true]
  · rw [if_neg (by simp; omega), decide_eq_false c, Bool.false_and]
theorem impl_TypesOk_ev (l : List ByteArray) (hs : ∀ x ∈ l, x.size ≤ 1048576) : Ev (fun k => impl_TypesOk.f k l) (typesOk l) := by
  have hany : l.length ≤ 12 → Ev (fun k => slices_ContainsFunc_string_at_impl_TypesOk_1.f k l) (l.any fun x => !typeOk x) := fun hl => by
    unfold slices_ContainsFunc_string_at_impl_TypesOk_1.f slices_IndexFunc_string_at_impl_TypesOk_1.f
    refine contains_ev (d := ByteArray.empty) (l := l) (by omega) (g := fun k i => slices_IndexFunc_string_at_impl_TypesOk_1.p6 k l (l.length : Int) i) (t := fun _ x => impl_TypesOk_1.f x) (f := fun x => !typeOk x) (fun k i => by rw [slices_IndexFunc_string_at_impl_TypesOk_1.p6]) (fun x hx => ?_)
    unfold impl_TypesOk_1.f
    exact Ev.bindo (isType_f x (hs x hx)) (Ev.eq rfl)
  unfold impl_TypesOk.f typesOk
  refine Ev.bindo rfl (Ev.bindo (within_f _ _ _) ?_)
  by_cases c : 1 ≤ l.length ∧ l.length ≤ 12
  · refine Ev.pos (by simp; omega) (Ev.bind (hany c.2) (Ev.eq ?_))
    rw [decide_eq_true c, Bool.true_and, List.any_eq_not_all_not]
    simp
  · refine Ev.neg (by simp; omega) (Ev.eq ?_)
    rw [decide_eq_false c, Bool.false_and]
theorem bt_get {s : ByteArray} {i : Nat} (h : i < s.data.toList.length) : bt s (i : Int) = (s.data.toList[i].toNat : Int) := by
  have h' : i < s.size := h
  rw [← bt_at s (i : Int) (by simpa using h')]
  simp [ByteArray.getElem_eq_getElem_data]
theorem l3Type_ev (s : ByteArray) (hs : s.size ≤ 1048576) : Ev (fun k => spec_l3Type.f k s) (typeOk s) := by
  have hlen : s.data.toList.length = s.size := rfl
  have lp : ∀ (d i : Nat), s.size - i = d → i ≤ s.size → Ev (fun k => spec_l3Type.p6 k s (i : Int)) (decide (1 ≤ s.size ∧ s.size ≤ 23) && kindsOk (s.data.toList.drop i)) := by
    intro d
    induction d with
    | zero =>
      intro i hd hi
      rw [List.drop_eq_nil_of_le (by omega)]
      refine Ev.step (fun k => by rw [spec_l3Type.p6]) (Ev.neg (by omega) (Ev.bindo (l1In_f _ _ _) (Ev.eq ?_)))
      simp only [kindsOk, List.all_nil, Bool.and_true]
      rw [Bool.eq_iff_iff]
      simp
      omega
    | succ d ih =>
      intro i hd hi
      have hlt : i < s.data.toList.length := by omega
      have ih := ih (i + 1) (by omega) (by omega)
      refine Ev.step (fun k => by rw [spec_l3Type.p6]) ?_
      rw [byteAt_eq, bt_get hlt, show wrap64 ((i : Int) + 1) = ((i + 1 : Nat) : Int) from by rw [w64 (by omega) (by omega)]; omega, List.drop_eq_getElem_cons hlt]
      generalize s.data.toList[i] = b at *
      have hb : kindsOk (b :: s.data.toList.drop (i + 1)) = ([105, 114].contains b && kindsOk (s.data.toList.drop (i + 1))) := rfl
      rw [hb]
      refine Ev.pos (by omega) (Ev.pos (by omega) (Ev.pos (by omega) (Ev.cases (fun c => ?_) (fun c => Ev.pos (by omega) (Ev.pos (by omega) (Ev.cases (fun c2 => ?_) (fun c2 => Ev.eq ?_)))))))
      · have e : b = 105 := UInt8.toNat_inj.1 (by show b.toNat = 105; omega)
        subst e
        rw [show [105, 114].contains (105 : UInt8) = true from rfl, Bool.true_and]
        exact ih
      · have e : b = 114 := UInt8.toNat_inj.1 (by show b.toNat = 114; omega)
        subst e
        rw [show [105, 114].contains (114 : UInt8) = true from rfl, Bool.true_and]
        exact ih
      · have e : [105, 114].contains b = false := by
          rw [Bool.eq_false_iff]
          intro h
          simp at h
          rcases h with h | h
          · subst h; exact c rfl
          · subst h; exact c2 rfl
        rw [e, Bool.false_and, Bool.and_false]
  unfold spec_l3Type.f typeOk
  have h := lp _ 0 rfl (by omega)
  rw [List.drop_zero] at h
  exact h
theorem spec_TypesOk_ev (l : List ByteArray) (hl : l.length ≤ 1048576) (hs : ∀ x ∈ l, x.size ≤ 1048576) : Ev (fun k => spec_TypesOk.f k l) (typesOk l) := by
  have lp : ∀ (d i : Nat), l.length - i = d → i ≤ l.length → Ev (fun k => spec_TypesOk.p14 k l (i : Int)) ((l.drop i).all typeOk) := by
    intro d
    induction d with
    | zero =>
      intro i hd hi
      rw [List.drop_eq_nil_of_le (by omega)]
      refine Ev.step (fun k => by rw [spec_TypesOk.p14]) ?_
      exact Ev.neg (by omega) (Ev.eq rfl)
    | succ d ih =>
      intro i hd hi
      have hlt : i < l.length := by omega
      have ih := ih (i + 1) (by omega) (by omega)
      refine Ev.step (fun k => by rw [spec_TypesOk.p14]) ?_
      rw [show rdOf ByteArray.empty l (i : Int) = l[i] from by simp [rdOf, List.getD_eq_getElem?_getD, List.getElem?_eq_getElem hlt], show wrap64 ((i : Int) + 1) = ((i + 1 : Nat) : Int) from by rw [w64 (by omega) (by omega)]; omega, List.drop_eq_getElem_cons hlt, List.all_cons]
      refine Ev.pos (by omega) (Ev.pos (by omega) (Ev.pos (by omega) (Ev.bind (l3Type_ev l[i] (hs _ (List.getElem_mem hlt))) (Ev.cases (fun c => ?_) (fun c => ?_)))))
      · rw [c, Bool.true_and]
        exact ih
      · rw [Bool.eq_false_iff.2 c, Bool.false_and]
        exact Ev.eq rfl
  unfold spec_TypesOk.f typesOk
  refine Ev.bindo (l1In_f _ _ _) ?_
  by_cases c : 1 ≤ l.length ∧ l.length ≤ 12
  · rw [decide_eq_true c, Bool.true_and]
    refine Ev.pos (by simp; omega) ?_
    have h := lp _ 0 rfl (by omega)
    rw [List.drop_zero] at h
    exact h
  · rw [decide_eq_false c, Bool.false_and]
    exact Ev.neg (by simp; omega) (Ev.eq rfl)
end Go.Proofs.YtmciidoohbmipaaDoor.Abs
namespace Go.Proofs.YtmciidoohbmipaaDoor.Abs.Pu
open Go Go.RowKit
set_option linter.unusedVariables false
set_option linter.unusedSectionVars false
set_option linter.unusedSimpArgs false
abbrev Cfg := Int × Int × Int × List ByteArray
def configOk (c : Cfg) : Bool := (decide (8 ≤ c.1) && decide (c.1 ≤ 128)) && ((decide (1 ≤ c.2.1) && decide (c.2.1 ≤ 32 ∧ c.2.1 ≤ c.1 - 5)) && ((decide (2 ≤ c.2.2.1) && decide (c.2.2.1 ≤ 400)) && typesOk c.2.2.2))
theorem impl_ConfigOk_ev (c : Cfg) (hs : ∀ x ∈ c.2.2.2, x.size ≤ 1048576) : Ev (fun k => impl_ConfigOk.f k c.1 c.2.1 c.2.2.1 c.2.2.2) (configOk c) := by
  unfold impl_ConfigOk.f configOk
  refine Ev.bindo (within_f _ _ _) (Ev.cases (fun h => ?_) (fun h => by rw [Bool.eq_false_iff.2 h, Bool.false_and]; exact Ev.eq rfl))
  rw [h, Bool.true_and]
  simp only [Bool.and_eq_true, decide_eq_true_eq] at h
  rw [w64 (x := c.1 - 5) (by omega) (by omega)]
  have e : (decide (1 ≤ c.2.1) && decide (c.2.1 ≤ (if c.1 - 5 < 32 then c.1 - 5 else 32))) = (decide (1 ≤ c.2.1) && decide (c.2.1 ≤ 32 ∧ c.2.1 ≤ c.1 - 5)) := by
    congr 1
    rw [decide_eq_decide]
    split <;> omega
  refine Ev.bindo (within_f _ _ _) ?_
  rw [e]
  refine Ev.cases (fun h2 => ?_) (fun h2 => by rw [Bool.eq_false_iff.2 h2, Bool.false_and]; exact Ev.eq rfl)
  rw [h2, Bool.true_and]
  refine Ev.bindo (within_f _ _ _) (Ev.cases (fun h3 => ?_) (fun h3 => by rw [Bool.eq_false_iff.2 h3, Bool.false_and]; exact Ev.eq rfl))
  rw [h3, Bool.true_and]
  exact Ev.bind (impl_TypesOk_ev _ hs) (Ev.eq rfl)
theorem spec_ConfigOk_ev (c : Cfg) (hl : c.2.2.2.length ≤ 1048576) (hs : ∀ x ∈ c.2.2.2, x.size ≤ 1048576) : Ev (fun k => spec_ConfigOk.f k c.1 c.2.1 c.2.2.1 c.2.2.2) (configOk c) := by
  unfold spec_ConfigOk.f configOk
  refine Ev.bindo (l1In_f _ _ _) (Ev.cases (fun h => ?_) (fun h => by rw [Bool.eq_false_iff.2 h, Bool.false_and]; exact Ev.eq rfl))
  rw [h, Bool.true_and]
  simp only [Bool.and_eq_true, decide_eq_true_eq] at h
  rw [w64 (x := c.1 - 5) (by omega) (by omega)]
  refine Ev.bindo (l1In_f _ _ _) (Ev.cases (fun h2 => ?_) (fun h2 => ?_))
  · simp only [Bool.and_eq_true, decide_eq_true_eq] at h2
    refine Ev.cases (fun h4 => ?_) (fun h4 => ?_)
    · rw [decide_eq_true h2.1, decide_eq_true (show c.2.1 ≤ 32 ∧ c.2.1 ≤ c.1 - 5 from ⟨h2.2, h4⟩), Bool.true_and, Bool.true_and]
      refine Ev.bindo (l1In_f _ _ _) (Ev.cases (fun h3 => ?_) (fun h3 => by rw [Bool.eq_false_iff.2 h3, Bool.false_and]; exact Ev.eq rfl))
      rw [h3, Bool.true_and]
      exact Ev.bind (spec_TypesOk_ev _ hl hs) (Ev.eq rfl)
    · rw [decide_eq_false (show ¬ (c.2.1 ≤ 32 ∧ c.2.1 ≤ c.1 - 5) from fun h => h4 h.2), Bool.and_false, Bool.false_and]
      exact Ev.eq rfl
  · have : (decide (1 ≤ c.2.1) && decide (c.2.1 ≤ 32 ∧ c.2.1 ≤ c.1 - 5)) = false := by
      rw [Bool.eq_false_iff]
      intro h3
      apply h2
      simp only [Bool.and_eq_true, decide_eq_true_eq] at h3 ⊢
      omega
    rw [this, Bool.false_and]
    exact Ev.eq rfl
theorem configOk_facts {c : Cfg} (h : configOk c = true) : 8 ≤ c.1 ∧ c.1 ≤ 128 ∧ 1 ≤ c.2.1 ∧ c.2.1 ≤ 32 ∧ c.2.1 ≤ c.1 - 5 ∧ 2 ≤ c.2.2.1 ∧ c.2.2.1 ≤ 400 ∧ typesOk c.2.2.2 = true := by
  unfold configOk at h
  simp only [Bool.and_eq_true, decide_eq_true_eq] at h
  exact ⟨h.1.1, h.1.2, h.2.1.1, h.2.1.2.1, h.2.1.2.2, h.2.2.1.1, h.2.2.1.2, h.2.2.2⟩
end Go.Proofs.YtmciidoohbmipaaDoor.Abs.Pu
namespace Go.Proofs.YtmciidoohbmipaaDoor.Abs.Pu
open Go Go.RowKit
set_option linter.unusedVariables false
set_option linter.unusedSectionVars false
set_option linter.unusedSimpArgs false
/-- An object of valid types, its references such that p holds. -/
def objW (p : Int → Bool) (types : List ByteArray) (o : Int × List Int) : Bool :=
  (decide (0 ≤ o.1) && decide (o.1 ≤ (types.length : Int) - 1)) && (decide (o.2.length = (rdOf ByteArray.empty types o.1).size) && refsB p (rdOf ByteArray.empty types o.1) 0 o.2)
theorem type_size {types : List ByteArray} (ht : typesOk types = true) (t : Int) : (rdOf ByteArray.empty types t).size ≤ 23 := by
  unfold typesOk at ht
  rw [Bool.and_eq_true, List.all_eq_true] at ht
  unfold rdOf
  by_cases h : t.toNat < types.length
  · have := ht.2 _ (List.getElem_mem h)
    rw [List.getD_eq_getElem?_getD, List.getElem?_eq_getElem h]
    unfold typeOk at this
    simp only [Bool.and_eq_true, decide_eq_true_eq] at this
    exact this.1.2
  · rw [List.getD_eq_getElem?_getD, List.getElem?_eq_none (by omega)]
    exact Nat.zero_le _
theorem types_len {types : List ByteArray} (ht : typesOk types = true) : 1 ≤ types.length ∧ types.length ≤ 12 := by
  unfold typesOk at ht
  rw [Bool.and_eq_true] at ht
  simpa using ht.1
end Go.Proofs.YtmciidoohbmipaaDoor.Abs.Pu
namespace Go.Proofs.YtmciidoohbmipaaDoor.Abs.Pu
open Go Go.RowKit
set_option linter.unusedVariables false
set_option linter.unusedSectionVars false
set_option linter.unusedSimpArgs false
def shortB (n : Int) : ByteArray := strOfNums [n / 256 % 256, n % 256]
theorem shortB_size (n : Int) : (shortB n).size = 2 := strOfNums_size _
theorem byte_ok (x : Int) : 0 ≤ x % 256 ∧ x % 256 ≤ 255 := by omega
theorem isBytes2 (x y : Int) : isBytes [x % 256, y % 256] := by
  intro z hz
  simp only [List.mem_cons, List.not_mem_nil, or_false] at hz
  rcases hz with rfl | rfl
  · exact byte_ok _
  · exact byte_ok _
theorem spec_ShortBytes_ev (n : Int) (h0 : 0 ≤ n) (h1 : n ≤ 65535) : Ev (fun k => spec_ShortBytes.f k n) (shortB n) := by
  have hz := wordB_size n
  unfold spec_ShortBytes.f
  refine Ev.bindo (l1In_f _ _ _) (Ev.pos (by simp; omega) (Ev.bind (spec_WordBytes_ev n) (Ev.pos (by omega) (Ev.eq ?_))))
  refine bytesOf_inj ?_
  have hu : IntKind.u64.wrap n = n := by rw [wrap_u64]; omega
  rw [bytesOf_cut, wordB, hu, bytesOf_strOfNums (wordL_isBytes n), Int.toNat_natCast, strOfNums_size, shortB, bytesOf_strOfNums (isBytes2 _ _)]
  show [byte8 n 6, byte8 n 7] = _
  unfold byte8
  simp
/-- The mask of a type, from a field on. -/
def maskF (t : ByteArray) : Nat → Nat → Int → Int
  | 0, _, m => m
  | d + 1, i, m => maskF t d (i + 1) (if bt t (i : Int) = 114 then orA .i64 m (shlA .i64 1 (i : Int)) else m)
def quad (t : ByteArray) : ByteArray := strOf [(t.size : Int) % 256, shrA .i64 (maskF t t.size 0 0) 16 % 256, shrA .i64 (maskF t t.size 0 0) 8 % 256, maskF t t.size 0 0 % 256]
theorem quad_size (t : ByteArray) : (quad t).size = 4 := strOfNums_size _
def nvg : ByteArray := ⟨#[78, 86, 71, 49]⟩
theorem nvg_size : nvg.size = 4 := rfl
def headB (c : Cfg) : ByteArray := (((nvg ++ shortB c.1) ++ shortB c.2.1) ++ shortB c.2.2.1) ++ strOf [(c.2.2.2.length : Int) % 256]
theorem headB_size (c : Cfg) : (headB c).size = 11 := by
  unfold headB
  have h1 : (strOf [(c.2.2.2.length : Int) % 256]).size = 1 := strOfNums_size _
  simp only [ByteArray.size_append, shortB_size, nvg_size, h1]
def quads (ts : List ByteArray) (s : ByteArray) : ByteArray := ts.foldl (fun s t => s ++ quad t) s
theorem quads_size : ∀ (ts : List ByteArray) (s : ByteArray), (quads ts s).size = s.size + 4 * ts.length
  | [], s => by simp [quads]
  | t :: ts, s => by
    have := quads_size ts (s ++ quad t)
    unfold quads at this ⊢
    rw [List.foldl_cons, this, ByteArray.size_append, quad_size, List.length_cons]
    omega
theorem u64_nat {i : Nat} (h : i ≤ 1000000) : IntKind.u64.wrap (i : Int) = (i : Int) := by rw [wrap_u64]; omega
theorem spec_l3Super_ev (c : Cfg) (hc : configOk c = true) : Ev (fun k => spec_l3Super.f k c.1 c.2.1 c.2.2.1 c.2.2.2) (sealR (quads c.2.2.2 (headB c))) := by
  have hf := configOk_facts hc
  have ht := hf.2.2.2.2.2.2.2
  have htl := types_len ht
  unfold spec_l3Super.f
  have h1 : (strOf [(c.2.2.2.length : Int) % 256]).size = 1 := strOfNums_size _
  refine Ev.bind (spec_ShortBytes_ev c.1 (by omega) (by omega)) (Ev.pos (by rw [shortB_size]; decide) ?_)
  refine Ev.bind (spec_ShortBytes_ev c.2.1 (by omega) (by omega)) (Ev.pos (by simp only [ByteArray.size_append, shortB_size]; decide) ?_)
  refine Ev.bind (spec_ShortBytes_ev c.2.2.1 (by omega) (by omega)) (Ev.pos (by simp only [ByteArray.size_append, shortB_size]; decide) (Ev.pos (by simp only [ByteArray.size_append, shortB_size, h1]; decide) ?_))
  have key : ∀ i, i ≤ c.2.2.2.length → ∀ s : ByteArray, s.size + 4 * (c.2.2.2.length - i) ≤ 60 → Ev (fun k => spec_l3Super.p8 k c.1 c.2.1 c.2.2.1 c.2.2.2 s (i : Int)) (sealR (quads (c.2.2.2.drop i) s)) := by
    refine down ?_ ?_
    · intro s hz
      refine Ev.step (fun k => by rw [spec_l3Super.p8]) ?_
      rw [List.drop_eq_nil_of_le (Nat.le_refl _)]
      exact Ev.neg (by omega) (Ev.bind (spec_Sealed_ev s (by omega)) (Ev.eq rfl))
    · intro i hi ih s hz
      have hg : rdOf ByteArray.empty c.2.2.2 (i : Int) = c.2.2.2[i] := rdg hi
      have hts := type_size ht (i : Int)
      rw [hg] at hts
      have nx := ih (s ++ quad c.2.2.2[i]) (by rw [ByteArray.size_append, quad_size]; omega)
      have hq : quads (c.2.2.2.drop i) s = quads (c.2.2.2.drop (i + 1)) (s ++ quad c.2.2.2[i]) := by
        rw [List.drop_eq_getElem_cons hi]; rfl
      rw [← hq] at nx
      have hqs := quad_size c.2.2.2[i]
      refine Ev.step (fun k => by rw [spec_l3Super.p8]) ?_
      refine Ev.pos (by omega) ?_
      have lp : ∀ (d j : Nat) (m : Int), j + d = (c.2.2.2[i]).size → maskF c.2.2.2[i] d j m = maskF c.2.2.2[i] (c.2.2.2[i]).size 0 0 → Ev (fun k => spec_l3Super.p23 k c.1 c.2.1 c.2.2.1 c.2.2.2 s (i : Int) m (j : Int)) (sealR (quads (c.2.2.2.drop i) s)) := by
        intro d
        induction d with
        | zero =>
          intro j m hj hm
          rw [maskF] at hm
          refine Ev.step (fun k => by rw [spec_l3Super.p23]) ?_
          rw [hg, hm, w64s (i := i) (by omega)]
          unfold quad at nx hqs
          exact Ev.pos (by omega) (Ev.pos (by omega) (Ev.neg (by omega) (Ev.pos (by omega) (Ev.pos (by omega) (Ev.pos (by rw [hqs]; omega) nx)))))
        | succ d ihd =>
          intro j m hj hm
          rw [maskF] at hm
          refine Ev.step (fun k => by rw [spec_l3Super.p23]) ?_
          rw [hg, w64s (i := j) (by omega), u64_nat (by omega)]
          refine Ev.pos (by omega) (Ev.pos (by omega) (Ev.pos (by omega) (Ev.pos (by omega) (Ev.pos (by omega) (Ev.pos (by omega) (Ev.pos (by omega) ?_))))))
          by_cases k : bt c.2.2.2[i] (j : Int) = 114
          · rw [if_pos k] at hm
            exact Ev.pos k (Ev.neg (by omega) (ihd (j + 1) _ (by omega) hm))
          · rw [if_neg k] at hm
            exact Ev.neg k (ihd (j + 1) _ (by omega) hm)
      exact lp (c.2.2.2[i]).size 0 0 (by omega) rfl
  have hh := headB_size c
  exact key 0 (Nat.zero_le _) (headB c) (by omega)
end Go.Proofs.YtmciidoohbmipaaDoor.Abs.Pu
namespace Go.Proofs.YtmciidoohbmipaaDoor.Abs.Pu
open Go Go.RowKit
set_option linter.unusedVariables false
set_option linter.unusedSectionVars false
set_option linter.unusedSimpArgs false
theorem bigBytes4_ev (v : Int) (h : U32 v) : Ev (fun k => impl_bigBytes.f k v 4) (out4 v) := by
  have s8 : ∀ x : Int, shrA .u64 x 8 = x / 256 := fun _ => rfl
  unfold impl_bigBytes.f
  have i0 : wrap64 ((0 : Int) + 1) = 1 := (w64 (by omega) (by omega)).trans (by decide)
  have i1 : wrap64 ((1 : Int) + 1) = 2 := (w64 (by omega) (by omega)).trans (by decide)
  have i2 : wrap64 ((2 : Int) + 1) = 3 := (w64 (by omega) (by omega)).trans (by decide)
  have i3 : wrap64 ((3 : Int) + 1) = 4 := (w64 (by omega) (by omega)).trans (by decide)
  have j4 : wrap64 ((4 : Int) - 1) = 3 := (w64 (by omega) (by omega)).trans (by decide)
  have j0 : wrap64 (wrap64 ((4 : Int) - 1) - 0) = 3 := by rw [j4]; exact (w64 (by omega) (by omega)).trans (by decide)
  have j1 : wrap64 (wrap64 ((4 : Int) - 1) - 1) = 2 := by rw [j4]; exact (w64 (by omega) (by omega)).trans (by decide)
  have j2 : wrap64 (wrap64 ((4 : Int) - 1) - 2) = 1 := by rw [j4]; exact (w64 (by omega) (by omega)).trans (by decide)
  have j3 : wrap64 (wrap64 ((4 : Int) - 1) - 3) = 0 := by rw [j4]; exact (w64 (by omega) (by omega)).trans (by decide)
  have z4 : List.replicate (Int.toNat 4) (0 : Int) = [0, 0, 0, 0] := rfl
  rw [z4]
  refine Ev.pos (by decide) (Ev.pos (by decide) ?_)
  refine Ev.step (fun k => by rw [impl_bigBytes.p8]) ?_
  rw [j0, i0]
  refine Ev.pos (by decide) (Ev.pos (by decide) (Ev.pos (by simp) ?_))
  refine Ev.step (fun k => by rw [impl_bigBytes.p8]) ?_
  rw [j1, i1]
  refine Ev.pos (by simp) (Ev.pos (by decide) (Ev.pos (by simp) ?_))
  refine Ev.step (fun k => by rw [impl_bigBytes.p8]) ?_
  rw [j2, i2]
  refine Ev.pos (by simp) (Ev.pos (by decide) (Ev.pos (by simp) ?_))
  refine Ev.step (fun k => by rw [impl_bigBytes.p8]) ?_
  rw [j3, i3]
  refine Ev.pos (by simp) (Ev.pos (by decide) (Ev.pos (by simp) ?_))
  refine Ev.step (fun k => by rw [impl_bigBytes.p8]) ?_
  refine Ev.neg (by simp) (Ev.eq ?_)
  rw [s8, s8, s8]
  show strOfNums [v / 256 / 256 / 256 % 256, v / 256 / 256 % 256, v / 256 % 256, v % 256] = out4 v
  unfold out4
  rw [show v / 256 / 256 / 256 = v / 16777216 from by omega, show v / 256 / 256 = v / 65536 from by omega]
theorem impl_Crc_ev (s : ByteArray) (hs : s.size ≤ 20000) : Ev (fun k => impl_Crc.f k s) (crcB s) := by
  have inner : ∀ (n j : Nat) (c : Int) (i : Nat) (r : ByteArray), j + n = 8 → U32 c → i ≤ 20000 → Ev (fun k => impl_Crc.p16 k s (crcIt n c) (s.size : Int) ((i + 1 : Nat) : Int)) r → Ev (fun k => impl_Crc.p32 k s c (s.size : Int) (i : Int) (j : Int)) r := by
    intro n
    induction n with
    | zero =>
      intro j c i r hj hc hi hr
      refine Ev.step (fun k => by rw [impl_Crc.p32]) ?_
      rw [w64s (i := i) (by omega)]
      exact Ev.neg (by omega) hr
    | succ n ih =>
      intro j c i r hj hc hi hr
      have nx := ih (j + 1) (crcBit c) i r (by omega) (crcBit_range hc) hi hr
      unfold crcBit at nx
      refine Ev.step (fun k => by rw [impl_Crc.p32]) ?_
      rw [w64s (i := j) (by omega), and1_u32 hc]
      refine Ev.pos (by omega) ?_
      by_cases k : c % 2 = 1
      · rw [if_pos k] at nx
        exact Ev.pos k nx
      · rw [if_neg k] at nx
        exact Ev.neg k nx
  have outer : ∀ (d i : Nat) (c : Int), i + d = s.size → U32 c → Ev (fun k => impl_Crc.p16 k s c (s.size : Int) (i : Int)) (out4 (xorA .u32 4294967295 (crcFrom s d i c))) := by
    intro d
    induction d with
    | zero =>
      intro i c hi hc
      have hx := xor32_range 4294967295 c
      refine Ev.step (fun k => by rw [impl_Crc.p16]) ?_
      rw [u64_id' hx]
      exact Ev.neg (by omega) (Ev.bind (bigBytes4_ev _ hx) (Ev.eq rfl))
    | succ d ih =>
      intro i c hi hc
      refine Ev.step (fun k => by rw [impl_Crc.p16]) ?_
      exact Ev.pos (by omega) (Ev.pos (by omega) (Ev.pos (by omega) (inner 8 0 _ i _ rfl (xor32_range _ _) (by omega) (ih (i + 1) _ (by omega) (crcIt_range 8 (xor32_range _ _))))))
  unfold impl_Crc.f
  exact Ev.neg (by omega) (outer s.size 0 4294967295 (by omega) U32_top)
theorem impl_Sealed_ev (s : ByteArray) (h : s.size ≤ 60) : Ev (fun k => impl_Sealed.f k s) (sealR s) := by
  have hz := impl_zeros_f (60 - s.size) (by omega)
  have hs := zerosB_size (60 - s.size)
  have ht := sealT_size h
  unfold impl_Sealed.f
  rw [w64 (x := 60 - (s.size : Int)) (by omega) (by omega), show 60 - (s.size : Int) = ((60 - s.size : Nat) : Int) from by omega]
  refine Ev.neg (by omega) (Ev.bindo hz (Ev.pos (by omega) ?_))
  have hc := impl_Crc_ev (sealT s) (by omega)
  have hcs := crcB_size (sealT s)
  unfold sealT at hc ht hcs
  exact Ev.bind hc (Ev.pos (by rw [ht, hcs]; omega) (Ev.eq rfl))
end Go.Proofs.YtmciidoohbmipaaDoor.Abs.Pu
namespace Go.Proofs.YtmciidoohbmipaaDoor.Abs.Pu
open Go Go.RowKit
set_option linter.unusedVariables false
set_option linter.unusedSectionVars false
set_option linter.unusedSimpArgs false
theorem impl_ShortBytes_f (n : Int) (h0 : 0 ≤ n) (h1 : n ≤ 65535) : impl_ShortBytes.f n = some (shortB n) := by
  unfold impl_ShortBytes.f
  rw [within_f, Option.bind_some, if_pos (by simp; omega)]
  rfl
def superR (c : Cfg) : ByteArray := if configOk c = true then sealR (quads c.2.2.2 (headB c)) else ByteArray.empty
theorem spec_SuperLine_ev (c : Cfg) (hl : c.2.2.2.length ≤ 1048576) (hs : ∀ x ∈ c.2.2.2, x.size ≤ 1048576) : Ev (fun k => spec_SuperLine.f k c.1 c.2.1 c.2.2.1 c.2.2.2) (superR c) := by
  unfold spec_SuperLine.f superR
  refine Ev.bind (spec_ConfigOk_ev c hl hs) (Ev.cases (fun hc => ?_) (fun hc => by rw [if_neg hc]; exact Ev.eq rfl))
  rw [if_pos hc]
  exact Ev.bind (spec_l3Super_ev c hc) (Ev.eq rfl)
theorem impl_SuperLine_ev (c : Cfg) (hs : ∀ x ∈ c.2.2.2, x.size ≤ 1048576) : Ev (fun k => impl_SuperLine.f k c.1 c.2.1 c.2.2.1 c.2.2.2) (superR c) := by
  unfold impl_SuperLine.f superR
  refine Ev.bind (impl_ConfigOk_ev c hs) (Ev.cases (fun hc => ?_) (fun hc => by rw [if_neg hc]; exact Ev.eq rfl))
  rw [if_pos hc]
  have hf := configOk_facts hc
  have ht := hf.2.2.2.2.2.2.2
  have htl := types_len ht
  have h1 : (strOf [(c.2.2.2.length : Int) % 256]).size = 1 := strOfNums_size _
  refine Ev.bindo (impl_ShortBytes_f c.1 (by omega) (by omega)) (Ev.pos (by rw [shortB_size]; decide) ?_)
  refine Ev.bindo (impl_ShortBytes_f c.2.1 (by omega) (by omega)) (Ev.pos (by simp only [ByteArray.size_append, shortB_size]; decide) ?_)
  refine Ev.bindo (impl_ShortBytes_f c.2.2.1 (by omega) (by omega)) (Ev.pos (by simp only [ByteArray.size_append, shortB_size]; decide) (Ev.pos (by simp only [ByteArray.size_append, shortB_size, h1]; decide) ?_))
  have key : ∀ i, i ≤ c.2.2.2.length → ∀ s : ByteArray, s.size + 4 * (c.2.2.2.length - i) ≤ 60 → Ev (fun k => impl_SuperLine.p16 k s c.2.2.2 (c.2.2.2.length : Int) (i : Int)) (sealR (quads (c.2.2.2.drop i) s)) := by
    refine down ?_ ?_
    · intro s hz
      refine Ev.step (fun k => by rw [impl_SuperLine.p16]) ?_
      rw [List.drop_eq_nil_of_le (Nat.le_refl _)]
      exact Ev.neg (by omega) (Ev.bind (impl_Sealed_ev s (by omega)) (Ev.eq rfl))
    · intro i hi ih s hz
      have hg : rdOf ByteArray.empty c.2.2.2 (i : Int) = c.2.2.2[i] := rdg hi
      have hts := type_size ht (i : Int)
      rw [hg] at hts
      have nx := ih (s ++ quad c.2.2.2[i]) (by rw [ByteArray.size_append, quad_size]; omega)
      have hq : quads (c.2.2.2.drop i) s = quads (c.2.2.2.drop (i + 1)) (s ++ quad c.2.2.2[i]) := by
        rw [List.drop_eq_getElem_cons hi]; rfl
      rw [← hq] at nx
      have hqs := quad_size c.2.2.2[i]
      refine Ev.step (fun k => by rw [impl_SuperLine.p16]) ?_
      rw [hg]
      refine Ev.pos (by omega) (Ev.pos (by omega) (Ev.pos (by omega) ?_))
      generalize hT : c.2.2.2[i] = T at *
      have lp : ∀ (d j : Nat) (m : Int), j + d = T.size → maskF T d j m = maskF T T.size 0 0 → Ev (fun k => impl_SuperLine.p33 k s T m c.2.2.2 (c.2.2.2.length : Int) (i : Int) (T.size : Int) (j : Int)) (sealR (quads (c.2.2.2.drop i) s)) := by
        intro d
        induction d with
        | zero =>
          intro j m hj hm
          rw [maskF] at hm
          refine Ev.step (fun k => by rw [impl_SuperLine.p33]) ?_
          rw [hm, w64s (i := i) (by omega)]
          unfold quad at nx hqs
          exact Ev.neg (by omega) (Ev.pos (by rw [hqs]; omega) nx)
        | succ d ihd =>
          intro j m hj hm
          rw [maskF] at hm
          refine Ev.step (fun k => by rw [impl_SuperLine.p33]) ?_
          rw [w64s (i := j) (by omega)]
          refine Ev.pos (by omega) (Ev.pos (by omega) (Ev.pos (by omega) ?_))
          by_cases k : bt T (j : Int) = 114
          · rw [if_pos k] at hm
            exact Ev.pos k (Ev.neg (by omega) (ihd (j + 1) _ (by omega) hm))
          · rw [if_neg k] at hm
            exact Ev.neg k (ihd (j + 1) _ (by omega) hm)
      exact lp T.size 0 0 (by omega) rfl
  have hh := headB_size c
  exact key 0 (Nat.zero_le _) (headB c) (by omega)
end Go.Proofs.YtmciidoohbmipaaDoor.Abs.Pu
namespace Go.Proofs.YtmciidoohbmipaaDoor.Abs.Pu
open Go Go.RowKit
set_option linter.unusedVariables false
set_option linter.unusedSectionVars false
set_option linter.unusedSimpArgs false
def rdS (s : ByteArray) (p : Nat) : Int := bt s (p : Int) * 256 + bt s ((p + 1 : Nat) : Int)
def maskAt (s : ByteArray) (k : Nat) : Int := orA .i64 (orA .i64 (shlA .i64 (wrap64 (bt s ((11 + 4 * k + 1 : Nat) : Int))) 16) (shlA .i64 (wrap64 (bt s ((11 + 4 * k + 2 : Nat) : Int))) 8)) (wrap64 (bt s ((11 + 4 * k + 3 : Nat) : Int)))
def cntAt (s : ByteArray) (k : Nat) : Nat := (bt s ((11 + 4 * k : Nat) : Int)).toNat
def kindI (mask : Int) (i : Nat) : Int := if andA .i64 (shrA .i64 mask (i : Int)) 1 = 1 then 114 else 105
def kindsL (mask : Int) (n : Nat) : List Int := (List.range n).map (kindI mask)
def typAt (s : ByteArray) (n k : Nat) : ByteArray := strOfNums (kindsL (maskAt s k) n)
theorem typAt_size (s : ByteArray) (n k : Nat) : (typAt s n k).size = n := by simp [typAt, strOfNums_size, kindsL]
def specT (s : ByteArray) (n : Nat) : List ByteArray := (List.range n).map fun k => typAt s (min (cntAt s k) 24) k
def implT (s : ByteArray) (n : Nat) : List ByteArray := (List.range n).map fun k => typAt s (cntAt s k) k
def specCfg (s : ByteArray) : Cfg := (rdS s 4, rdS s 6, rdS s 8, specT s (min (bt s 10).toNat 12))
def implCfg (s : ByteArray) : Cfg := (rdS s 4, rdS s 6, rdS s 8, implT s (bt s 10).toNat)
def out5 : Option Cfg → Int × Int × Int × List ByteArray × Bool
  | some c => (c.1, c.2.1, c.2.2.1, c.2.2.2, true)
  | none => (0, 0, 0, [], false)
def specR (s : ByteArray) : Option Cfg := if superR (specCfg s) = s then some (specCfg s) else none
def implR (s : ByteArray) : Option Cfg := if crcB (s.extract 0 60) = s.extract 60 64 ∧ bt s 10 ≤ 12 ∧ configOk (implCfg s) = true ∧ superR (implCfg s) = s then some (implCfg s) else none
theorem bt_left {a b : ByteArray} {i : Nat} (h : i < a.size) : bt (a ++ b) (i : Int) = bt a (i : Int) := by
  rw [bt_bytesOf, bt_bytesOf, bytesOf_append]
  simp only [List.getD_eq_getElem?_getD]
  rw [List.getElem?_append_left (by rw [bytesOf_length]; exact h)]
theorem bt_right {a b : ByteArray} {j : Nat} : bt (a ++ b) ((a.size + j : Nat) : Int) = bt b (j : Int) := by
  rw [bt_bytesOf, bt_bytesOf, bytesOf_append]
  simp only [List.getD_eq_getElem?_getD]
  rw [List.getElem?_append_right (by rw [bytesOf_length]; omega), bytesOf_length, show a.size + j - a.size = j from by omega]
theorem cut_left (a b : ByteArray) {n : Nat} (h : a.size = n) : (a ++ b).extract 0 n = a := by
  refine bytesOf_inj ?_
  rw [bytesOf_cut, bytesOf_append, List.drop_zero, Nat.sub_zero, ← h, ← bytesOf_length a, List.take_left]
theorem cut_right (a b : ByteArray) {n m : Nat} (h : a.size = n) (h2 : b.size = m - n) : (a ++ b).extract n m = b := by
  refine bytesOf_inj ?_
  rw [bytesOf_cut, bytesOf_append, ← h, ← bytesOf_length a, List.drop_left, bytesOf_length, h, ← h2, ← bytesOf_length b, List.take_length]
theorem quads_pre : ∀ (ts : List ByteArray) (s : ByteArray), ∃ r, quads ts s = s ++ r
  | [], s => ⟨ByteArray.empty, by simp [quads]⟩
  | t :: ts, s => by
    obtain ⟨r, h⟩ := quads_pre ts (s ++ quad t)
    refine ⟨quad t ++ r, ?_⟩
    unfold quads at h ⊢
    rw [List.foldl_cons, h, ByteArray.append_assoc]
theorem types_small {ts : List ByteArray} (h : typesOk ts = true) : ∀ x ∈ ts, x.size ≤ 23 := by
  intro x hx
  unfold typesOk at h
  rw [Bool.and_eq_true, List.all_eq_true] at h
  have := h.2 x hx
  unfold typeOk at this
  simp only [Bool.and_eq_true, decide_eq_true_eq] at this
  exact this.1.2
theorem cfg_same {s : ByteArray} (h1 : (bt s 10).toNat ≤ 12) (h2 : ∀ k, k < (bt s 10).toNat → cntAt s k ≤ 23) : implCfg s = specCfg s := by
  have e : implT s (bt s 10).toNat = specT s (min (bt s 10).toNat 12) := by
    rw [Nat.min_eq_left h1]
    unfold implT specT
    refine List.map_congr_left (fun k hk => ?_)
    have := h2 k (List.mem_range.1 hk)
    rw [Nat.min_eq_left (by omega)]
  unfold implCfg specCfg
  rw [e]
theorem superR_ok {c : Cfg} {s : ByteArray} (h : superR c = s) (hz : s.size = 64) : configOk c = true := by
  by_cases k : configOk c = true
  · exact k
  · unfold superR at h
    rw [if_neg k] at h
    rw [← h] at hz
    exact absurd hz (by decide)
theorem read_same {s : ByteArray} (hz : s.size = 64) : implR s = specR s := by
  have hb10 := bt_range s 10
  by_cases h : superR (specCfg s) = s
  · have hc := superR_ok h hz
    have hf := configOk_facts hc
    have ht := hf.2.2.2.2.2.2.2
    have htl := types_len ht
    have hsm := types_small ht
    have hR : specR s = some (specCfg s) := by unfold specR; rw [if_pos h]
    have hlen : (specCfg s).2.2.2.length = min (bt s 10).toNat 12 := by simp [specCfg, specT]
    -- the parts of s
    have hq := quads_size (specCfg s).2.2.2 (headB (specCfg s))
    have hh := headB_size (specCfg s)
    obtain ⟨r, hr⟩ := quads_pre (specCfg s).2.2.2 (headB (specCfg s))
    have hs : s = sealR (quads (specCfg s).2.2.2 (headB (specCfg s))) := by
      have h' := h
      unfold superR at h'
      rw [if_pos hc] at h'
      exact h'.symm
    have hb59 : (quads (specCfg s).2.2.2 (headB (specCfg s))).size ≤ 59 := by omega
    generalize quads (specCfg s).2.2.2 (headB (specCfg s)) = B at hs hr hb59
    have hst := sealT_size (s := B) (by omega)
    have e1 : s.extract 0 60 = sealT B := by
      rw [hs]
      exact cut_left _ _ hst
    have e2 : s.extract 60 64 = crcB (sealT B) := by
      rw [hs]
      exact cut_right _ _ hst (crcB_size _)
    have e3 : bt s 10 = ((specCfg s).2.2.2.length : Int) % 256 := by
      have hB : bt B ((10 : Nat) : Int) = ((specCfg s).2.2.2.length : Int) % 256 := by
        rw [hr, bt_left (by omega)]
        unfold headB
        have hx : (((nvg ++ shortB (specCfg s).1) ++ shortB (specCfg s).2.1) ++ shortB (specCfg s).2.2.1).size = 10 := by
          simp only [ByteArray.size_append, shortB_size, nvg_size]
        generalize ((nvg ++ shortB (specCfg s).1) ++ shortB (specCfg s).2.1) ++ shortB (specCfg s).2.2.1 = X at *
        generalize ((specCfg s).2.2.2.length : Int) = n at *
        have := bt_right (a := X) (b := strOf [n % 256]) (j := 0)
        rw [hx] at this
        rw [show ((10 : Nat) : Int) = ((10 + 0 : Nat) : Int) from rfl, this, bt_bytesOf]
        show (bytesOf (strOfNums [n % 256])).getD 0 0 = _
        rw [bytesOf_strOfNums (fun z hz => by simp only [List.mem_singleton] at hz; subst hz; exact byte_ok _)]
        rfl
      have hsz : 10 < B.size := by
        rw [hr, ByteArray.size_append]; omega
      have : bt (sealR B) ((10 : Nat) : Int) = bt B ((10 : Nat) : Int) := by
        unfold sealR sealT
        rw [bt_left (by rw [ByteArray.size_append]; omega), bt_left hsz]
      rw [← hs, hB] at this
      exact this
    have h12 : (bt s 10).toNat ≤ 12 := by
      rw [hlen] at e3
      by_cases k : (bt s 10).toNat ≤ 12
      · exact k
      · rw [Nat.min_eq_right (by omega)] at e3
        omega
    have hcnt : ∀ k, k < (bt s 10).toNat → cntAt s k ≤ 23 := by
      intro k hk
      have := hsm (typAt s (min (cntAt s k) 24) k) (by
        show _ ∈ specT s (min (bt s 10).toNat 12)
        unfold specT
        exact List.mem_map.2 ⟨k, List.mem_range.2 (by omega), rfl⟩)
      rw [typAt_size] at this
      omega
    have hsame := cfg_same h12 hcnt
    rw [hR]
    unfold implR
    rw [hsame, if_pos ⟨by rw [e1, e2], by omega, hc, h⟩]
  · have hR : specR s = none := by unfold specR; rw [if_neg h]
    rw [hR]
    unfold implR
    rw [if_neg]
    rintro ⟨_, h2, h3, h4⟩
    have hsm := types_small (configOk_facts h3).2.2.2.2.2.2.2
    have hcnt : ∀ k, k < (bt s 10).toNat → cntAt s k ≤ 23 := by
      intro k hk
      have := hsm (typAt s (cntAt s k) k) (by
        show _ ∈ implT s (bt s 10).toNat
        unfold implT
        exact List.mem_map.2 ⟨k, List.mem_range.2 hk, rfl⟩)
      rwa [typAt_size] at this
    rw [cfg_same (by omega) hcnt] at h4
    exact h h4
end Go.Proofs.YtmciidoohbmipaaDoor.Abs.Pu
namespace Go.Proofs.YtmciidoohbmipaaDoor.Abs.Pu
open Go Go.RowKit
set_option linter.unusedVariables false
set_option linter.unusedSectionVars false
set_option linter.unusedSimpArgs false
theorem seal_cut {B s : ByteArray} (hB : B.size ≤ 60) (h : sealR B = s) : s.extract 0 60 = sealT B ∧ s.extract 60 64 = crcB (sealT B) := by
  have hst := sealT_size hB
  subst h
  exact ⟨cut_left _ _ hst, cut_right _ _ hst (crcB_size _)⟩
def unsealO (s : ByteArray) : ByteArray × Bool := if crcB (s.extract 0 60) = s.extract 60 64 then (s.extract 0 60, true) else (⟨#[]⟩, false)
theorem impl_Unsealed_ev (s : ByteArray) (hz : s.size = 64) : Ev (fun k => impl_Unsealed.f k s) (unsealO s) := by
  have ht : (s.extract 0 60).size = 60 := by rw [ByteArray.size_extract]; omega
  unfold impl_Unsealed.f unsealO
  rw [show (s.size : Int).toNat = 64 from by omega]
  refine Ev.pos (by omega) (Ev.pos (by omega) (Ev.bind (impl_Crc_ev _ (by omega)) (Ev.pos (by omega) ?_)))
  by_cases h : crcB (s.extract 0 60) = s.extract 60 64
  · rw [if_pos h]
    exact Ev.pos (toList_inj.2 h) (Ev.pos (by omega) (Ev.eq rfl))
  · rw [if_neg h]
    exact Ev.neg (fun e => h (toList_inj.1 e)) (Ev.eq rfl)
theorem unseal_yes {B s : ByteArray} (hB : B.size ≤ 60) (h : sealR B = s) : unsealO s = (s.extract 0 60, true) := by
  obtain ⟨h1, h2⟩ := seal_cut hB h
  unfold unsealO
  rw [if_pos (by rw [h1, h2])]
theorem wordv_cut (s : ByteArray) (a b p : Nat) (h : a + p + 8 ≤ b) (hb : b ≤ s.size) : wordv (s.extract a b) p = wordv s (a + p) := by
  unfold wordv
  refine congrArg wrap64 (be_congr 8 (fun i hi => ?_))
  rw [bt_extract s a b (p + i) (by omega) hb, Nat.add_assoc]
theorem cut_cut (s : ByteArray) (b p q : Nat) (h : q ≤ b) : (s.extract 0 b).extract p q = s.extract p q := by
  refine bytesOf_inj ?_
  rw [bytesOf_cut, bytesOf_cut, bytesOf_cut, List.drop_zero, Nat.sub_zero, List.drop_take, List.take_take]
  congr 1
  omega
end Go.Proofs.YtmciidoohbmipaaDoor.Abs.Pu
namespace Go.Proofs.YtmciidoohbmipaaDoor.Abs.Pu
open Go Go.RowKit
set_option linter.unusedVariables false
set_option linter.unusedSectionVars false
set_option linter.unusedSimpArgs false
theorem bt_byte (s : ByteArray) : ∀ p i : Nat, 0 ≤ bt s ((p + i : Nat) : Int) ∧ bt s ((p + i : Nat) : Int) ≤ 255 := fun p i => bt_range s _
theorem spec_ReadWord_ev (s : ByteArray) (h : s.size = 8) : Ev (fun k => spec_ReadWord.f k s) (wordv s 0, true) := by
  have key : ∀ i, i ≤ 8 → Ev (fun k => spec_ReadWord.p16 k s (be (fun i => bt s ((0 + i : Nat) : Int)) i) (i : Int)) (wordv s 0, true) := by
    refine down ?_ ?_
    · refine Ev.step (fun k => by rw [spec_ReadWord.p16]) ?_
      exact Ev.neg (by omega) (Ev.eq rfl)
    · intro i hi ih
      refine Ev.step (fun k => by rw [spec_ReadWord.p16]) ?_
      refine Ev.pos (by omega) (Ev.pos (by omega) (Ev.pos (by omega) ?_))
      have e := be_step_u64 (fun i => bt s ((0 + i : Nat) : Int)) (fun i => bt_byte s 0 i) i (by omega)
      simp only [Nat.zero_add] at e ih ⊢
      rw [byteAt_eq, orA_eq, shl8_u64, e, w64s (i := i) (by omega)]
      exact ih
  unfold spec_ReadWord.f
  exact Ev.pos (by omega) (key 0 (by omega))
theorem impl_wordAt_ev (s : ByteArray) (p : Nat) (h : p + 8 ≤ s.size) (hs : s.size ≤ 140737488355328) : Ev (fun k => impl_wordAt.f k s (p : Int)) (wordv s p) := by
  have key : ∀ i, i ≤ 8 → Ev (fun k => impl_wordAt.p8 k s (p : Int) (wrap64 (be (fun i => bt s ((p + i : Nat) : Int)) i)) (i : Int)) (wordv s p) := by
    refine down ?_ ?_
    · refine Ev.step (fun k => by rw [impl_wordAt.p8]) ?_
      exact Ev.neg (by omega) (Ev.eq rfl)
    · intro i hi ih
      refine Ev.step (fun k => by rw [impl_wordAt.p8]) ?_
      rw [show wrap64 ((p : Int) + (i : Int)) = ((p + i : Nat) : Int) from by rw [w64 (by omega) (by omega)]; omega]
      refine Ev.pos (by omega) (Ev.pos (by omega) (Ev.pos (by omega) ?_))
      have e := be_step_i64 (fun i => bt s ((p + i : Nat) : Int)) (fun i => bt_byte s p i) i
      rw [byteAt_eq, orA_eq, shl8_i64, e, w64s (i := i) (by omega)]
      exact ih
  unfold impl_wordAt.f
  have h := key 0 (by omega)
  rwa [show wrap64 (be (fun i => bt s ((p + i : Nat) : Int)) 0) = 0 from by simp only [be]; exact w64 (by omega) (by omega)] at h
theorem wordv_extract (s : ByteArray) (p : Nat) (h : p + 8 ≤ s.size) : wordv (s.extract p (p + 8)) 0 = wordv s p := by
  unfold wordv
  refine congrArg wrap64 (be_congr 8 (fun i hi => ?_))
  rw [Nat.zero_add]
  exact bt_extract s p (p + 8) i (by omega) h
end Go.Proofs.YtmciidoohbmipaaDoor.Abs.Pu
namespace Go.Proofs.YtmciidoohbmipaaDoor.Abs.Pu
open Go Go.RowKit
set_option linter.unusedVariables false
set_option linter.unusedSectionVars false
set_option linter.unusedSimpArgs false
def epochOk (e : Int) : Bool := decide (0 ≤ e) && decide (e ≤ 1000000000)
def epochL (e : Int) : ByteArray := if epochOk e = true then sealR (wordB e) else ⟨#[]⟩
theorem spec_EpochLine_ev (e : Int) : Ev (fun k => spec_EpochLine.f k e) (epochL e) := by
  unfold spec_EpochLine.f epochL
  refine Ev.bindo (l1In_f _ _ _) ?_
  by_cases h : epochOk e = true
  · rw [if_pos h]
    exact Ev.pos h (Ev.bind (spec_WordBytes_ev e) (Ev.bind (spec_Sealed_ev _ (by rw [wordB_size]; omega)) (Ev.eq rfl)))
  · rw [if_neg h]
    exact Ev.neg h (Ev.eq rfl)
theorem impl_EpochLine_ev (e : Int) : Ev (fun k => impl_EpochLine.f k e) (epochL e) := by
  unfold impl_EpochLine.f epochL
  refine Ev.bindo (within_f _ _ _) ?_
  by_cases h : epochOk e = true
  · rw [if_pos h]
    exact Ev.pos h (Ev.bind (impl_WordBytes_ev e) (Ev.bind (impl_Sealed_ev _ (by rw [wordB_size]; omega)) (Ev.eq rfl)))
  · rw [if_neg h]
    exact Ev.neg h (Ev.eq rfl)
theorem epochL_size (e : Int) : (epochL e).size = 64 ∨ epochL e = ⟨#[]⟩ := by
  unfold epochL
  split
  · exact .inl (sealR_size (by rw [wordB_size]; omega))
  · exact .inr rfl
theorem epochL_ok {e : Int} {s : ByteArray} (hz : s.size = 64) (h : epochL e = s) : epochOk e = true ∧ sealR (wordB e) = s := by
  unfold epochL at h
  split at h
  · rename_i k; exact ⟨k, h⟩
  · rw [← h] at hz; cases hz
def epochO (s : ByteArray) : Int × Bool := if epochL (wordv s 0) = s then (wordv s 0, true) else (0, false)
theorem spec_ReadEpoch_ev (s : ByteArray) (hz : s.size = 64) : Ev (fun k => spec_ReadEpoch.f k s) (epochO s) := by
  have hw := wordv_cut s 0 8 0 (by omega) (by omega)
  unfold spec_ReadEpoch.f epochO
  refine Ev.pos (by omega) (Ev.pos (by omega) (Ev.bind (spec_ReadWord_ev _ (by rw [ByteArray.size_extract]; omega)) ?_))
  simp only [hw]
  refine Ev.bind (spec_EpochLine_ev _) ?_
  by_cases h : epochL (wordv s 0) = s
  · rw [if_pos h]
    exact Ev.pos (toList_inj.2 h) (Ev.eq rfl)
  · rw [if_neg h]
    exact Ev.neg (fun e => h (toList_inj.1 e)) (Ev.eq rfl)
theorem impl_ReadEpoch_ev (s : ByteArray) (hz : s.size = 64) : Ev (fun k => impl_ReadEpoch.f k s) (epochO s) := by
  have hw := wordv_cut s 0 60 0 (by omega) (by omega)
  have ht : (s.extract 0 60).size = 60 := by rw [ByteArray.size_extract]; omega
  unfold impl_ReadEpoch.f
  refine Ev.bind (impl_Unsealed_ev s hz) ?_
  by_cases h : epochL (wordv s 0) = s
  · obtain ⟨h1, h2⟩ := epochL_ok hz h
    rw [unseal_yes (by rw [wordB_size]; omega) h2]
    have ha := impl_wordAt_ev (s.extract 0 60) 0 (by omega) (by omega)
    rw [hw] at ha
    refine Ev.pos rfl (Ev.bind ha (Ev.bindo (within_f _ _ _) (Ev.pos h1 (Ev.bind (impl_EpochLine_ev _) (Ev.pos (toList_inj.2 h) (Ev.eq ?_))))))
    unfold epochO
    rw [if_pos h]
  · have hno : epochO s = (0, false) := by unfold epochO; rw [if_neg h]
    rw [hno]
    unfold unsealO
    split
    · have ha := impl_wordAt_ev (s.extract 0 60) 0 (by omega) (by omega)
      rw [hw] at ha
      refine Ev.pos rfl (Ev.bind ha (Ev.bindo (within_f _ _ _) (Ev.cases (fun _ => ?_) (fun _ => Ev.eq rfl))))
      exact Ev.bind (impl_EpochLine_ev _) (Ev.neg (fun e => h (toList_inj.1 e)) (Ev.eq rfl))
    · exact Ev.neg (by simp) (Ev.eq rfl)
end Go.Proofs.YtmciidoohbmipaaDoor.Abs.Pu
namespace Go.Proofs.YtmciidoohbmipaaDoor.Abs.Pu
open Go Go.RowKit
set_option linter.unusedVariables false
set_option linter.unusedSectionVars false
set_option linter.unusedSimpArgs false
/-- The bytes of words. -/
def WL : List Int → List Int
  | [] => []
  | n :: l => wordL (IntKind.u64.wrap n) ++ WL l
theorem wordL_length (u : Int) : (wordL u).length = 8 := rfl
theorem WL_length : ∀ l : List Int, (WL l).length = 8 * l.length
  | [] => rfl
  | n :: l => by rw [WL, List.length_append, wordL_length, WL_length l, List.length_cons]; omega
theorem WL_append : ∀ a b : List Int, WL (a ++ b) = WL a ++ WL b
  | [], _ => rfl
  | n :: a, b => by rw [List.cons_append, WL, WL, WL_append a b, List.append_assoc]
theorem WL_isBytes : ∀ l : List Int, isBytes (WL l)
  | [], x, hx => by cases hx
  | n :: l, x, hx => by
    rw [WL, List.mem_append] at hx
    rcases hx with hx | hx
    · exact wordL_isBytes _ x hx
    · exact WL_isBytes l x hx
theorem strOfNums_append (a b : List Int) : strOfNums (a ++ b) = strOfNums a ++ strOfNums b := by
  unfold strOfNums
  rw [List.map_append]
  apply ByteArray.ext
  rw [ByteArray.data_append]
  simp
theorem isBytes_append {a b : List Int} (ha : isBytes a) (hb : isBytes b) : isBytes (a ++ b) := fun x hx => by
  rcases List.mem_append.1 hx with hx | hx
  · exact ha x hx
  · exact hb x hx
/-- A word among words. -/
theorem wordv_WL (pre post z : List Int) (n : Int) (hz : isBytes z) (h0 : -9223372036854775808 ≤ n) (h1 : n ≤ 9223372036854775807) : wordv (strOfNums (WL (pre ++ n :: post) ++ z)) (8 * pre.length) = n := by
  have e := wordv_wordB n h0 h1
  unfold wordv at e ⊢
  refine Eq.trans (congrArg wrap64 (be_congr 8 (fun i hi => ?_))) e
  rw [bt_bytesOf, bt_bytesOf, bytesOf_strOfNums (isBytes_append (WL_isBytes _) hz), wordB, bytesOf_strOfNums (wordL_isBytes _), WL_append, WL, Nat.zero_add]
  simp only [List.getD_eq_getElem?_getD]
  rw [List.append_assoc, List.getElem?_append_right (by rw [WL_length]; omega), WL_length, show 8 * pre.length + i - 8 * pre.length = i from by omega, List.append_assoc, List.getElem?_append_left (by rw [wordL_length]; exact hi)]
/-- The lines of an object of a type. -/
def runL (types : List ByteArray) (t : Int) : Nat := ((rdOf ByteArray.empty types t).size + 8) / 8
def objB8 (types : List ByteArray) (o : Int × List Int) : ByteArray := strOfNums (WL ((o.1 + 1) :: o.2) ++ List.replicate (64 * runL types o.1 - 8 * (o.2.length + 1)) 0)
def okRef8 (x : Int) : Bool := true
theorem runL_bound {types : List ByteArray} (ht : typesOk types = true) (t : Int) : 1 ≤ runL types t ∧ runL types t ≤ 3 ∧ (rdOf ByteArray.empty types t).size + 1 ≤ 8 * runL types t := by
  have := type_size ht t
  unfold runL
  omega
theorem objB8_size {types : List ByteArray} {o : Int × List Int} (ht : typesOk types = true) (h : o.2.length = (rdOf ByteArray.empty types o.1).size) : (objB8 types o).size = 64 * runL types o.1 := by
  have := runL_bound ht o.1
  rw [objB8, strOfNums_size, List.length_append, WL_length, List.length_cons, List.length_replicate]
  omega
theorem objB8_head {types : List ByteArray} {o : Int × List Int} (h0 : 0 ≤ o.1) (h1 : o.1 ≤ 100) : wordv (objB8 types o) 0 = o.1 + 1 :=
  wordv_WL [] o.2 _ (o.1 + 1) (isBytes_replicate _) (by omega) (by omega)
theorem objB8_val {types : List ByteArray} {o : Int × List Int} (i : Nat) (h : i < o.2.length) (hi : ∀ x ∈ o.2, -9223372036854775808 ≤ x ∧ x ≤ 9223372036854775807) : wordv (objB8 types o) (8 + 8 * i) = o.2[i] := by
  have hx := hi _ (List.getElem_mem h)
  have hs : o.2 = o.2.take i ++ o.2[i] :: o.2.drop (i + 1) := by
    rw [← List.drop_eq_getElem_cons h, List.take_append_drop]
  have := wordv_WL ((o.1 + 1) :: o.2.take i) (o.2.drop (i + 1)) (List.replicate (64 * runL types o.1 - 8 * (o.2.length + 1)) 0) o.2[i] (isBytes_replicate _) hx.1 hx.2
  rw [List.cons_append, ← hs, List.length_cons, List.length_take, show 8 * (min i o.2.length + 1) = 8 + 8 * i from by omega] at this
  exact this
/-- The values that stand in bytes. -/
def valsOf (s : ByteArray) (n : Nat) : List Int := (List.range n).map fun i => wordv s (8 + 8 * i)
theorem valsOf_objB8 {types : List ByteArray} {o : Int × List Int} (hi : ∀ x ∈ o.2, -9223372036854775808 ≤ x ∧ x ≤ 9223372036854775807) : valsOf (objB8 types o) o.2.length = o.2 := by
  refine List.ext_getElem (by simp [valsOf]) (fun i h1 h2 => ?_)
  simp only [valsOf, List.getElem_map, List.getElem_range]
  exact objB8_val i h2 hi
end Go.Proofs.YtmciidoohbmipaaDoor.Abs.Pu
namespace Go.Proofs.YtmciidoohbmipaaDoor.Abs.Pu
open Go Go.RowKit
set_option linter.unusedVariables false
set_option linter.unusedSectionVars false
set_option linter.unusedSimpArgs false
theorem spec_ReadShort_f (s : ByteArray) (p : Nat) (h : p + 2 ≤ s.size) : spec_ReadShort.f (s.extract p (p + 2)) = some (rdS s p, true) := by
  have hz : (s.extract p (p + 2)).size = 2 := by rw [ByteArray.size_extract]; omega
  have b0 := bt_extract s p (p + 2) 0 (by omega) h
  have b1 := bt_extract s p (p + 2) 1 (by omega) h
  have r0 := bt_range s ((p + 0 : Nat) : Int)
  have r1 := bt_range s ((p + 1 : Nat) : Int)
  unfold spec_ReadShort.f rdS
  rw [if_pos (by omega), if_pos (by omega), if_pos (by omega), byteAt_eq, byteAt_eq]
  rw [show (0 : Int) = ((0 : Nat) : Int) from rfl, show (1 : Int) = ((1 : Nat) : Int) from rfl, b0, b1]
  rw [w64 (x := bt s ((p + 0 : Nat) : Int)) (by omega) (by omega), w64 (x := bt s ((p + 1 : Nat) : Int)) (by omega) (by omega), w64 (x := bt s ((p + 0 : Nat) : Int) * 256) (by omega) (by omega), w64 (by omega) (by omega)]
  rfl
theorem impl_ReadShort_f (s : ByteArray) (p : Nat) (h : p + 2 ≤ s.size) : impl_ReadShort.f (s.extract p (p + 2)) = some (rdS s p, true) := by
  have hz : (s.extract p (p + 2)).size = 2 := by rw [ByteArray.size_extract]; omega
  have b0 := bt_extract s p (p + 2) 0 (by omega) h
  have b1 := bt_extract s p (p + 2) 1 (by omega) h
  have r0 := bt_range s ((p + 0 : Nat) : Int)
  have r1 := bt_range s ((p + 1 : Nat) : Int)
  unfold impl_ReadShort.f rdS
  rw [if_pos (by omega), if_pos (by omega), if_pos (by omega), byteAt_eq, byteAt_eq]
  rw [show (0 : Int) = ((0 : Nat) : Int) from rfl, show (1 : Int) = ((1 : Nat) : Int) from rfl, b0, b1]
  rw [w64 (x := bt s ((p + 0 : Nat) : Int)) (by omega) (by omega), w64 (x := bt s ((p + 1 : Nat) : Int)) (by omega) (by omega), shl8_i64, w64 (x := bt s ((p + 0 : Nat) : Int) * 256) (by omega) (by omega), orA_eq, or8_i64 _ _ (by omega) (by omega) (by omega) (by omega) (by omega)]
  rfl
theorem kindsL_succ (m : Int) (n : Nat) : kindsL m (n + 1) = kindsL m n ++ [kindI m n] := by
  unfold kindsL
  rw [List.range_succ, List.map_append]
  rfl
theorem kindsL_length (m : Int) (n : Nat) : (kindsL m n).length = n := by simp [kindsL]
theorem specT_succ (s : ByteArray) (n : Nat) : specT s (n + 1) = specT s n ++ [typAt s (min (cntAt s n) 24) n] := by
  unfold specT
  rw [List.range_succ, List.map_append]
  rfl
theorem specT_length (s : ByteArray) (n : Nat) : (specT s n).length = n := by simp [specT]
theorem implT_succ (s : ByteArray) (n : Nat) : implT s (n + 1) = implT s n ++ [typAt s (cntAt s n) n] := by
  unfold implT
  rw [List.range_succ, List.map_append]
  rfl
theorem implT_length (s : ByteArray) (n : Nat) : (implT s n).length = n := by simp [implT]
theorem ws1 (k : Nat) (h : k ≤ 1000) : wrap64 (11 + wrap64 (4 * (k : Int))) = ((11 + 4 * k : Nat) : Int) := by
  rw [w64 (x := 4 * (k : Int)) (by omega) (by omega), w64 (by omega) (by omega)]; omega
theorem wi1 (k : Nat) (h : k ≤ 1000) : wrap64 (15 + wrap64 (4 * (k : Int))) = ((15 + 4 * k : Nat) : Int) := by
  rw [w64 (x := 4 * (k : Int)) (by omega) (by omega), w64 (by omega) (by omega)]; omega
theorem wt1 (a : Nat) (h : a ≤ 100000) : wrap64 ((a : Int) + 1) = ((a + 1 : Nat) : Int) := by
  rw [w64 (by omega) (by omega)]; omega
theorem wt2 (a : Nat) (h : a ≤ 100000) : wrap64 ((a : Int) + 2) = ((a + 2 : Nat) : Int) := by
  rw [w64 (by omega) (by omega)]; omega
theorem wt3 (a : Nat) (h : a ≤ 100000) : wrap64 ((a : Int) + 3) = ((a + 3 : Nat) : Int) := by
  rw [w64 (by omega) (by omega)]; omega
theorem cntAt_eq (s : ByteArray) (k : Nat) : bt s ((11 + 4 * k : Nat) : Int) = (cntAt s k : Int) ∧ cntAt s k ≤ 255 := by
  have := bt_range s ((11 + 4 * k : Nat) : Int)
  unfold cntAt
  omega
theorem spec_ReadSuper_ev (s : ByteArray) (hz : s.size = 64) : Ev (fun k => spec_ReadSuper.f k s) (out5 (specR s)) := by
  have hb10 := bt_range s 10
  have a4 := spec_ReadShort_f s 4 (by omega)
  have a6 := spec_ReadShort_f s 6 (by omega)
  have a8 := spec_ReadShort_f s 8 (by omega)
  unfold spec_ReadSuper.f
  refine Ev.pos (by omega) (Ev.pos (by omega) (Ev.bindo a4 (Ev.pos (by omega) (Ev.bindo a6 (Ev.pos (by omega) (Ev.bindo a8 ?_))))))
  simp only []
  -- the end
  have last : ∀ (x5 : Int) (b : Bool), b = false → Ev (fun k => spec_ReadSuper.p26 k s 0 0 0 (rdS s 4) (rdS s 6) (rdS s 8) (specT s (min (bt s 10).toNat 12)) x5 b) (out5 (specR s)) := by
    intro x5 b hb
    have hS := spec_SuperLine_ev (specCfg s) (by show (specT s _).length ≤ _; rw [specT_length]; omega) (fun x hx => by
      obtain ⟨k, _, rfl⟩ := List.mem_map.1 (show x ∈ (List.range _).map _ from hx)
      rw [typAt_size]; omega)
    refine Ev.step (fun k => by rw [spec_ReadSuper.p26]) ?_
    rw [hb]
    refine Ev.neg (by simp) (Ev.bind hS ?_)
    unfold specR
    by_cases h : superR (specCfg s) = s
    · rw [if_pos h]
      exact Ev.pos (toList_inj.2 h) (Ev.eq rfl)
    · rw [if_neg h]
      exact Ev.neg (fun e => h (toList_inj.1 e)) (Ev.eq rfl)
  have loop : ∀ (d k : Nat), k + d = min (bt s 10).toNat 12 → Ev (fun n => spec_ReadSuper.p22 n s 0 0 0 (rdS s 4) (rdS s 6) (rdS s 8) (specT s k) (k : Int)) (out5 (specR s)) := by
    intro d
    induction d with
    | zero =>
      intro k hk
      have hke : k = min (bt s 10).toNat 12 := by omega
      subst hke
      refine Ev.step (fun n => by rw [spec_ReadSuper.p22]) ?_
      rw [byteAt_eq, w64 (x := bt s 10) (by omega) (by omega)]
      refine Ev.pos (by omega) (Ev.cases (fun c => last _ _ (decide_eq_false (by omega))) (fun c => last _ _ rfl))
    | succ d ih =>
      intro k hk
      have hk1 : (k : Int) < bt s 10 := by omega
      have hk2 : k < 12 := by omega
      have nx := ih (k + 1) (by omega)
      rw [specT_succ] at nx
      obtain ⟨hc1, hc2⟩ := cntAt_eq s k
      refine Ev.step (fun n => by rw [spec_ReadSuper.p22]) ?_
      rw [byteAt_eq, w64 (x := bt s 10) (by omega) (by omega), decide_eq_true (show (k : Int) < 12 by omega)]
      refine Ev.pos (by omega) (Ev.pos hk1 ?_)
      have g1 : ((11 + 4 * k + 1 : Nat) : Int) < (s.size : Int) := by omega
      have g2 : ((11 + 4 * k + 2 : Nat) : Int) < (s.size : Int) := by omega
      have g3 : ((11 + 4 * k + 3 : Nat) : Int) < (s.size : Int) := by omega
      have g0 : ((11 + 4 * k : Nat) : Int) < (s.size : Int) := by omega
      have z0 : ∀ n : Nat, (0 : Int) ≤ (n : Int) := fun n => by omega
      refine Ev.step (fun n => by rw [spec_ReadSuper.p26]) ?_
      rw [ws1 k (by omega), wt1 (11 + 4 * k) (by omega), wt2 (11 + 4 * k) (by omega), wt3 (11 + 4 * k) (by omega)]
      refine Ev.pos rfl (Ev.pos (z0 _) (Ev.pos g1 (Ev.pos (z0 _) (Ev.pos g2 (Ev.pos (z0 _) (Ev.pos g3 ?_))))))
      rw [byteAt_eq, byteAt_eq, byteAt_eq]
      show Ev (fun n => spec_ReadSuper.p41 n s 0 0 0 (rdS s 4) (rdS s 6) (rdS s 8) (specT s k) (k : Int) ((11 + 4 * k : Nat) : Int) (maskAt s k) (⟨#[]⟩ : ByteArray) 0) _
      have hTl := specT_length s k
      have gk : k ≤ 4611686018427387904 := by omega
      clear ih
      have inner : ∀ (e j : Nat), j + e = min (cntAt s k) 24 → Ev (fun n => spec_ReadSuper.p41 n s 0 0 0 (rdS s 4) (rdS s 6) (rdS s 8) (specT s k) (k : Int) ((11 + 4 * k : Nat) : Int) (maskAt s k) (strOfNums (kindsL (maskAt s k) j)) (j : Int)) (out5 (specR s)) := by
        intro e
        induction e with
        | zero =>
          intro j hj
          have hje : j = min (cntAt s k) 24 := by omega
          have endp : ∀ b : Bool, b = false → Ev (fun n => spec_ReadSuper.p45 n s 0 0 0 (rdS s 4) (rdS s 6) (rdS s 8) (specT s k) (k : Int) ((11 + 4 * k : Nat) : Int) (maskAt s k) (strOfNums (kindsL (maskAt s k) j)) (j : Int) b) (out5 (specR s)) := by
            intro b hb
            refine Ev.step (fun n => by rw [spec_ReadSuper.p45]) ?_
            have gT : (specT s k).length + 1 ≤ 8796093022208 := by omega
            rw [hb, w64s (i := k) gk]
            rw [← hje] at nx
            exact Ev.neg (by simp) (Ev.pos gT nx)
          refine Ev.step (fun n => by rw [spec_ReadSuper.p41]) ?_
          rw [byteAt_eq, hc1, w64 (x := (cntAt s k : Int)) (by omega) (by omega)]
          exact Ev.pos (z0 _) (Ev.pos g0 (Ev.cases (fun c => endp _ (decide_eq_false (by omega))) (fun c => endp _ rfl)))
        | succ e ihe =>
          intro j hj
          have nj := ihe (j + 1) (by omega)
          rw [kindsL_succ, strOfNums_append] at nj
          have hsz : (strOfNums (kindsL (maskAt s k) j)).size = j := by rw [strOfNums_size, kindsL_length]
          have gj1 : j ≤ 1000000 := by omega
          have gj2 : j ≤ 4611686018427387904 := by omega
          have gj3 : ¬ (j : Int) < 0 := by omega
          have s114 : (⟨#[114]⟩ : ByteArray).size = 1 := rfl
          have s105 : (⟨#[105]⟩ : ByteArray).size = 1 := rfl
          refine Ev.step (fun n => by rw [spec_ReadSuper.p41]) ?_
          rw [byteAt_eq, hc1, w64 (x := (cntAt s k : Int)) (by omega) (by omega), decide_eq_true (show (j : Int) < 24 by omega)]
          refine Ev.pos (z0 _) (Ev.pos g0 (Ev.pos (by omega) ?_))
          refine Ev.step (fun n => by rw [spec_ReadSuper.p45]) ?_
          rw [u64_nat gj1, w64s (i := j) gj2]
          unfold kindI at nj
          refine Ev.pos rfl (Ev.neg gj3 ?_)
          by_cases c : andA .i64 (shrA .i64 (maskAt s k) (j : Int)) 1 = 1
          · rw [if_pos c] at nj
            exact Ev.pos c (Ev.pos (by omega) nj)
          · rw [if_neg c] at nj
            exact Ev.neg c (Ev.pos (by omega) nj)
      exact inner _ 0 (Nat.zero_add _)
  exact loop _ 0 (Nat.zero_add _)
end Go.Proofs.YtmciidoohbmipaaDoor.Abs.Pu
namespace Go.Proofs.YtmciidoohbmipaaDoor.Abs.Pu
open Go Go.RowKit
set_option linter.unusedVariables false
set_option linter.unusedSectionVars false
set_option linter.unusedSimpArgs false
abbrev Rec := Int × Int × Int × ByteArray
def recOk (r : Rec) : Bool := (decide (0 ≤ r.1) && decide (r.1 ≤ 999999999)) && ((decide (0 ≤ r.2.1) && decide (r.2.1 ≤ 31)) && ((decide (0 ≤ r.2.2.1) && decide (r.2.2.1 ≤ 255)) && decide ((r.2.2.2.size : Int) = 32)))
def recB (r : Rec) : ByteArray := ((((⟨#[85]⟩ : ByteArray) ++ (strOf ([(r.2.1 % 256)] : List Int))) ++ shortB r.2.2.1) ++ wordB r.1) ++ r.2.2.2
def recL (r : Rec) : ByteArray := if recOk r = true then sealR (recB r) else ⟨#[]⟩
theorem recOk_facts {r : Rec} (h : recOk r = true) : 0 ≤ r.1 ∧ r.1 ≤ 999999999 ∧ 0 ≤ r.2.1 ∧ r.2.1 ≤ 31 ∧ 0 ≤ r.2.2.1 ∧ r.2.2.1 ≤ 255 ∧ r.2.2.2.size = 32 := by
  unfold recOk at h
  simp only [Bool.and_eq_true, decide_eq_true_eq] at h
  omega
theorem one_size (x : Int) : (strOf ([x] : List Int)).size = 1 := strOfNums_size _
theorem recB_size {r : Rec} (h : r.2.2.2.size = 32) : (recB r).size = 44 := by
  have h1 : (⟨#[85]⟩ : ByteArray).size = 1 := rfl
  unfold recB
  simp only [ByteArray.size_append, one_size, shortB_size, wordB_size, h, h1]
theorem spec_rec_end (r : Rec) (h : recOk r = true) : Ev (fun k => spec_RecordLine.p5 k r.1 r.2.1 r.2.2.1 r.2.2.2 (!decide ((r.2.2.2.size : Int) = 32))) (sealR (recB r)) := by
  obtain ⟨h1, h2, h3, h4, h5, h6, h7⟩ := recOk_facts h
  have h8 : (⟨#[85]⟩ : ByteArray).size = 1 := rfl
  have hb := recB_size h7
  refine Ev.step (fun k => by rw [spec_RecordLine.p5]) ?_
  rw [decide_eq_true (show ((r.2.2.2.size : Int) = 32) by omega)]
  refine Ev.neg (by simp) (Ev.pos (by rw [one_size, h8]; omega) (Ev.bind (spec_ShortBytes_ev _ h5 (by omega)) (Ev.pos ?_ (Ev.bind (spec_WordBytes_ev _) (Ev.pos ?_ (Ev.pos ?_ (Ev.bind (spec_Sealed_ev _ ?_) (Ev.eq rfl))))))))
  · simp only [ByteArray.size_append, one_size, shortB_size, h8]; omega
  · simp only [ByteArray.size_append, one_size, shortB_size, wordB_size, h8]; omega
  · simp only [ByteArray.size_append, one_size, shortB_size, wordB_size, h8, h7]; omega
  · show (recB r).size ≤ 60; omega
theorem impl_rec_end (r : Rec) (h : recOk r = true) : Ev (fun k => impl_RecordLine.p5 k r.1 r.2.1 r.2.2.1 r.2.2.2 (!decide ((r.2.2.2.size : Int) = 32))) (sealR (recB r)) := by
  obtain ⟨h1, h2, h3, h4, h5, h6, h7⟩ := recOk_facts h
  have h8 : (⟨#[85]⟩ : ByteArray).size = 1 := rfl
  have hb := recB_size h7
  refine Ev.step (fun k => by rw [impl_RecordLine.p5]) ?_
  rw [decide_eq_true (show ((r.2.2.2.size : Int) = 32) by omega)]
  refine Ev.neg (by simp) (Ev.pos (by rw [one_size, h8]; omega) (Ev.bindo (impl_ShortBytes_f _ h5 (by omega)) (Ev.pos ?_ (Ev.bind (impl_WordBytes_ev _) (Ev.pos ?_ (Ev.pos ?_ (Ev.bind (impl_Sealed_ev _ ?_) (Ev.eq rfl))))))))
  · simp only [ByteArray.size_append, one_size, shortB_size, h8]; omega
  · simp only [ByteArray.size_append, one_size, shortB_size, wordB_size, h8]; omega
  · simp only [ByteArray.size_append, one_size, shortB_size, wordB_size, h8, h7]; omega
  · show (recB r).size ≤ 60; omega
theorem spec_rec_no (a b c : Int) (d : ByteArray) (x : Bool) (h : x = true) : Ev (fun k => spec_RecordLine.p5 k a b c d x) (⟨#[]⟩ : ByteArray) := by
  refine Ev.step (fun k => by rw [spec_RecordLine.p5]) ?_
  exact Ev.pos h (Ev.eq rfl)
theorem impl_rec_no (a b c : Int) (d : ByteArray) (x : Bool) (h : x = true) : Ev (fun k => impl_RecordLine.p5 k a b c d x) (⟨#[]⟩ : ByteArray) := by
  refine Ev.step (fun k => by rw [impl_RecordLine.p5]) ?_
  exact Ev.pos h (Ev.eq rfl)
theorem recL_no {r : Rec} (h : ¬ recOk r = true) : recL r = ⟨#[]⟩ := by unfold recL; rw [if_neg h]
theorem recL_yes {r : Rec} (h : recOk r = true) : recL r = sealR (recB r) := by unfold recL; rw [if_pos h]
theorem spec_RecordLine_ev (r : Rec) : Ev (fun k => spec_RecordLine.f k r.1 r.2.1 r.2.2.1 r.2.2.2) (recL r) := by
  unfold spec_RecordLine.f
  refine Ev.bindo (l1In_f _ _ _) (Ev.cases (fun h1 => ?_) (fun h1 => ?_))
  rotate_left
  · rw [recL_no (fun h => h1 (by simp only [recOk, Bool.and_eq_true] at h ⊢; exact h.1))]
    exact spec_rec_no _ _ _ _ _ rfl
  refine Ev.bindo (l1In_f _ _ _) (Ev.cases (fun h2 => ?_) (fun h2 => ?_))
  rotate_left
  · rw [recL_no (fun h => h2 (by simp only [recOk, Bool.and_eq_true] at h ⊢; exact h.2.1))]
    exact spec_rec_no _ _ _ _ _ rfl
  refine Ev.bindo (l1In_f _ _ _) (Ev.cases (fun h3 => ?_) (fun h3 => ?_))
  rotate_left
  · rw [recL_no (fun h => h3 (by simp only [recOk, Bool.and_eq_true] at h ⊢; exact h.2.2.1))]
    exact spec_rec_no _ _ _ _ _ rfl
  by_cases h4 : (r.2.2.2.size : Int) = 32
  · have h : recOk r = true := by unfold recOk; rw [h1, h2, h3, decide_eq_true h4]; rfl
    rw [recL_yes h]
    exact spec_rec_end r h
  · rw [recL_no (fun h => h4 (by have := recOk_facts h; omega))]
    exact spec_rec_no _ _ _ _ _ (by rw [decide_eq_false h4]; rfl)
theorem impl_RecordLine_ev (r : Rec) : Ev (fun k => impl_RecordLine.f k r.1 r.2.1 r.2.2.1 r.2.2.2) (recL r) := by
  unfold impl_RecordLine.f
  refine Ev.bindo (within_f _ _ _) (Ev.cases (fun h1 => ?_) (fun h1 => ?_))
  rotate_left
  · rw [recL_no (fun h => h1 (by simp only [recOk, Bool.and_eq_true] at h ⊢; exact h.1))]
    exact impl_rec_no _ _ _ _ _ rfl
  refine Ev.bindo (within_f _ _ _) (Ev.cases (fun h2 => ?_) (fun h2 => ?_))
  rotate_left
  · rw [recL_no (fun h => h2 (by simp only [recOk, Bool.and_eq_true] at h ⊢; exact h.2.1))]
    exact impl_rec_no _ _ _ _ _ rfl
  refine Ev.bindo (within_f _ _ _) (Ev.cases (fun h3 => ?_) (fun h3 => ?_))
  rotate_left
  · rw [recL_no (fun h => h3 (by simp only [recOk, Bool.and_eq_true] at h ⊢; exact h.2.2.1))]
    exact impl_rec_no _ _ _ _ _ rfl
  by_cases h4 : (r.2.2.2.size : Int) = 32
  · have h : recOk r = true := by unfold recOk; rw [h1, h2, h3, decide_eq_true h4]; rfl
    rw [recL_yes h]
    exact impl_rec_end r h
  · rw [recL_no (fun h => h4 (by have := recOk_facts h; omega))]
    exact impl_rec_no _ _ _ _ _ (by rw [decide_eq_false h4]; rfl)
def recAt (s : ByteArray) : Rec := (wordv s 4, bt s 1, rdS s 2, s.extract 12 44)
def recO (s : ByteArray) : Option Rec := if recL (recAt s) = s then some (recAt s) else none
def outR : Option Rec → Int × Int × Int × ByteArray × Bool
  | some r => (r.1, r.2.1, r.2.2.1, r.2.2.2, true)
  | none => (0, 0, 0, ⟨#[]⟩, false)
theorem recL_ok {r : Rec} {s : ByteArray} (hz : s.size = 64) (h : recL r = s) : recOk r = true ∧ sealR (recB r) = s := by
  unfold recL at h
  split at h
  · rename_i k; exact ⟨k, h⟩
  · rw [← h] at hz; cases hz
theorem recO_ok {s : ByteArray} {r : Rec} (hz : s.size = 64) (h : recO s = some r) : recOk r = true := by
  unfold recO at h
  split at h
  · rename_i k
    injection h with h
    rw [← h]
    exact (recL_ok hz k).1
  · cases h
theorem spec_ReadRecord_ev (s : ByteArray) (hz : s.size = 64) : Ev (fun k => spec_ReadRecord.f k s) (outR (recO s)) := by
  have hw := wordv_cut s 4 12 0 (by omega) (by omega)
  have b1 := bt_range s 1
  have a2 := spec_ReadShort_f s 2 (by omega)
  unfold spec_ReadRecord.f
  refine Ev.pos (by omega) (Ev.pos (by omega) (Ev.pos (by omega) (Ev.pos (by omega) (Ev.bindo a2 (Ev.pos (by omega) (Ev.bind (spec_ReadWord_ev _ (by rw [ByteArray.size_extract]; omega)) ?_))))))
  simp only [hw, byteAt_eq]
  rw [w64 (x := bt s 1) (by omega) (by omega)]
  refine Ev.bind (spec_RecordLine_ev (recAt s)) ?_
  by_cases h : recL (recAt s) = s
  · refine Ev.pos (toList_inj.2 h) (Ev.eq ?_)
    unfold recO; rw [if_pos h]; rfl
  · refine Ev.neg (fun e => h (toList_inj.1 e)) (Ev.eq ?_)
    unfold recO; rw [if_neg h]; rfl
theorem impl_ReadRecord_ev (s : ByteArray) (hz : s.size = 64) : Ev (fun k => impl_ReadRecord.f k s) (outR (recO s)) := by
  have ht : (s.extract 0 60).size = 60 := by rw [ByteArray.size_extract]; omega
  have hw := wordv_cut s 0 60 4 (by omega) (by omega)
  have b1 := bt_range s 1
  have bx : ∀ i : Nat, i < 60 → bt (s.extract 0 60) (i : Int) = bt s (i : Int) := fun i hi => by
    have := bt_extract s 0 60 i (by omega) (by omega)
    rwa [Nat.zero_add] at this
  have e1 : bt (s.extract 0 60) 1 = bt s 1 := bx 1 (by omega)
  have e2 : rdS (s.extract 0 60) 2 = rdS s 2 := by unfold rdS; rw [bx 2 (by omega), bx (2 + 1) (by omega)]
  have e3 : (s.extract 0 60).extract 12 44 = s.extract 12 44 := cut_cut s 60 12 44 (by omega)
  have a2 := impl_ReadShort_f (s.extract 0 60) 2 (by omega)
  rw [e2] at a2
  have ha := impl_wordAt_ev (s.extract 0 60) 4 (by omega) (by omega)
  rw [hw, Nat.zero_add] at ha
  unfold impl_ReadRecord.f
  refine Ev.bind (impl_Unsealed_ev s hz) ?_
  have go : Ev (fun k => (impl_RecordLine.f k (wordv s 4) (bt s 1) (rdS s 2) (s.extract 12 44)).bind fun t4 => (if t4.toList = s.toList then (some (wordv s 4, bt s 1, rdS s 2, s.extract 12 44, true)) else (some (0, 0, 0, (⟨#[]⟩ : ByteArray), false)))) (outR (recO s)) := by
    refine Ev.bind (impl_RecordLine_ev (recAt s)) ?_
    by_cases h : recL (recAt s) = s
    · refine Ev.pos (toList_inj.2 h) (Ev.eq ?_)
      unfold recO; rw [if_pos h]; rfl
    · refine Ev.neg (fun e => h (toList_inj.1 e)) (Ev.eq ?_)
      unfold recO; rw [if_neg h]; rfl
  by_cases hc : (unsealO s).2 = true
  · have hu : unsealO s = (s.extract 0 60, true) := by
      unfold unsealO at hc ⊢
      split at hc
      · rename_i k; rw [if_pos k]
      · cases hc
    rw [hu]
    refine Ev.pos rfl (Ev.pos (by simp only [ht]; decide) (Ev.bind ha (Ev.pos (by simp only [ht]; decide) (Ev.pos (by simp only [ht]; decide) (Ev.bindo a2 ?_)))))
    simp only [byteAt_eq, e1, e3]
    rw [w64 (x := bt s 1) (by omega) (by omega)]
    exact go
  · refine Ev.neg hc (Ev.eq ?_)
    unfold recO
    rw [if_neg (fun h => ?_)]
    · rfl
    · obtain ⟨k1, k2⟩ := recL_ok hz h
      have := recOk_facts k1
      rw [unseal_yes (by rw [recB_size this.2.2.2.2.2.2]; omega) k2] at hc
      exact hc rfl
end Go.Proofs.YtmciidoohbmipaaDoor.Abs.Pu
namespace Go.Proofs.YtmciidoohbmipaaDoor.Abs.Pu
open Go Go.RowKit
set_option linter.unusedVariables false
set_option linter.unusedSectionVars false
set_option linter.unusedSimpArgs false
def isImageB (c : Cfg) (s : ByteArray) : Bool := configOk c && decide ((s.size : Int) = 64 * c.1)
theorem impl_isImage_ev (c : Cfg) (s : ByteArray) (hs : ∀ x ∈ c.2.2.2, x.size ≤ 1048576) : Ev (fun k => impl_isImage.f k c.1 c.2.1 c.2.2.1 c.2.2.2 s) (isImageB c s) := by
  unfold impl_isImage.f isImageB
  refine Ev.bind (impl_ConfigOk_ev c hs) (Ev.cases (fun h => ?_) (fun h => by rw [Bool.eq_false_iff.2 h, Bool.false_and]; exact Ev.eq rfl))
  have := configOk_facts h
  rw [h, Bool.true_and, w64 (x := 64 * c.1) (by omega) (by omega)]
  exact Ev.eq rfl
theorem spec_l5Image_ev (c : Cfg) (s : ByteArray) (hl : c.2.2.2.length ≤ 1048576) (hs : ∀ x ∈ c.2.2.2, x.size ≤ 1048576) : Ev (fun k => spec_l5Image.f k c.1 c.2.1 c.2.2.1 c.2.2.2 s) (isImageB c s) := by
  unfold spec_l5Image.f isImageB
  refine Ev.bind (spec_ConfigOk_ev c hl hs) (Ev.cases (fun h => ?_) (fun h => by rw [Bool.eq_false_iff.2 h, Bool.false_and]; exact Ev.eq rfl))
  have := configOk_facts h
  rw [h, Bool.true_and, w64 (x := 64 * c.1) (by omega) (by omega)]
  exact Ev.eq rfl
theorem isImageB_facts {c : Cfg} {s : ByteArray} (h : isImageB c s = true) : configOk c = true ∧ (s.size : Int) = 64 * c.1 := by
  unfold isImageB at h
  simpa using h
end Go.Proofs.YtmciidoohbmipaaDoor.Abs.Pu
namespace Go.Proofs.YtmciidoohbmipaaDoor.Abs.Pu
open Go Go.RowKit
set_option linter.unusedVariables false
set_option linter.unusedSectionVars false
set_option linter.unusedSimpArgs false
def lineB (s : ByteArray) (n : Nat) : ByteArray := s.extract (64 * n) (64 * n + 64)
theorem lineB_size {s : ByteArray} {n : Nat} (h : 64 * n + 64 ≤ s.size) : (lineB s n).size = 64 := by
  unfold lineB
  rw [ByteArray.size_extract]
  omega
theorem w64n {n : Nat} (h : 64 * n + 64 ≤ 140737488355328) : wrap64 (64 * (n : Int)) = ((64 * n : Nat) : Int) ∧ wrap64 (wrap64 (64 * (n : Int)) + 64) = ((64 * n + 64 : Nat) : Int) := by
  have h1 : wrap64 (64 * (n : Int)) = ((64 * n : Nat) : Int) := by rw [w64 (by omega) (by omega)]; omega
  exact ⟨h1, by rw [h1, w64 (by omega) (by omega)]; omega⟩
theorem spec_l5Line_f (s : ByteArray) (n : Nat) (h : 64 * n + 64 ≤ s.size) (hs : s.size ≤ 140737488355328) : spec_l5Line.f s (n : Int) = some (lineB s n) := by
  obtain ⟨h1, h2⟩ := w64n (n := n) (by omega)
  unfold spec_l5Line.f lineB
  rw [h2, h1, if_pos (by omega), if_pos (by omega), if_pos (by omega), if_pos (by omega)]
  rfl
theorem impl_lineOf_f (s : ByteArray) (n : Nat) (h : 64 * n + 64 ≤ s.size) (hs : s.size ≤ 140737488355328) : impl_lineOf.f s (n : Int) = some (lineB s n) := by
  obtain ⟨h1, h2⟩ := w64n (n := n) (by omega)
  unfold impl_lineOf.f lineB
  rw [h2, h1, if_pos (by omega), if_pos (by omega), if_pos (by omega), if_pos (by omega)]
  rfl
def epochR (c : Cfg) (s : ByteArray) : Int := if isImageB c s = true then (if (epochO (lineB s 1)).2 = true then (epochO (lineB s 1)).1 else -1) else -1
theorem spec_EpochOf_ev (c : Cfg) (s : ByteArray) (hl : c.2.2.2.length ≤ 1048576) (ht : ∀ x ∈ c.2.2.2, x.size ≤ 1048576) : Ev (fun k => spec_EpochOf.f k c.1 c.2.1 c.2.2.1 c.2.2.2 s) (epochR c s) := by
  unfold spec_EpochOf.f epochR
  refine Ev.bind (spec_l5Image_ev c s hl ht) (Ev.cases (fun h => ?_) (fun h => by rw [if_neg h]; exact Ev.eq rfl))
  obtain ⟨hc, hz⟩ := isImageB_facts h
  have hf := configOk_facts hc
  rw [if_pos h]
  refine Ev.bindo (spec_l5Line_f s 1 (by omega) (by omega)) (Ev.bind (spec_ReadEpoch_ev _ (lineB_size (by omega))) (Ev.cases (fun k => ?_) (fun k => ?_)))
  · rw [if_pos k]; exact Ev.eq rfl
  · rw [if_neg k]; exact Ev.eq rfl
theorem impl_EpochOf_ev (c : Cfg) (s : ByteArray) (ht : ∀ x ∈ c.2.2.2, x.size ≤ 1048576) : Ev (fun k => impl_EpochOf.f k c.1 c.2.1 c.2.2.1 c.2.2.2 s) (epochR c s) := by
  unfold impl_EpochOf.f epochR
  refine Ev.bind (impl_isImage_ev c s ht) (Ev.cases (fun h => ?_) (fun h => by rw [if_neg h]; exact Ev.eq rfl))
  obtain ⟨hc, hz⟩ := isImageB_facts h
  have hf := configOk_facts hc
  rw [if_pos h]
  refine Ev.bindo (impl_lineOf_f s 1 (by omega) (by omega)) (Ev.bind (impl_ReadEpoch_ev _ (lineB_size (by omega))) (Ev.cases (fun k => ?_) (fun k => ?_)))
  · rw [if_pos k]; exact Ev.eq rfl
  · rw [if_neg k]; exact Ev.eq rfl
theorem epochR_image {c : Cfg} {s : ByteArray} (h : ¬ epochR c s < 0) : isImageB c s = true := by
  unfold epochR at h
  split at h
  · assumption
  · omega
/-- A half that may be logged. -/
def canB (c : Cfg) (x : Int) : Bool := (decide (4 ≤ x) && decide (x ≤ 5)) || (decide (2 * (4 + c.2.1) ≤ x) && decide (x ≤ 2 * c.1 - 1))
theorem spec_l5Half_f (c : Cfg) (hc : configOk c = true) (x : Int) : spec_l5Half.f c.1 c.2.1 c.2.2.1 c.2.2.2 x = some (canB c x) := by
  have hf := configOk_facts hc
  unfold spec_l5Half.f canB
  rw [w64 (x := 4 + c.2.1) (by omega) (by omega), w64 (x := 2 * (4 + c.2.1)) (by omega) (by omega), w64 (x := 2 * c.1) (by omega) (by omega), w64 (x := 2 * c.1 - 1) (by omega) (by omega), l1In_f, Option.bind_some]
  by_cases h4 : x = 4
  · rw [if_pos h4, h4]; rfl
  rw [if_neg h4]
  by_cases h5 : x = 5
  · rw [if_pos h5, h5]; rfl
  rw [if_neg h5, show (decide (4 ≤ x) && decide (x ≤ 5)) = false from by simp; omega, Bool.false_or]
theorem impl_canLog_f (c : Cfg) (hc : configOk c = true) (x : Int) : impl_canLog.f c.1 c.2.1 c.2.2.1 c.2.2.2 x = some (canB c x) := by
  have hf := configOk_facts hc
  unfold impl_canLog.f canB
  rw [w64 (x := 4 + c.2.1) (by omega) (by omega), w64 (x := 2 * (4 + c.2.1)) (by omega) (by omega), w64 (x := 2 * c.1) (by omega) (by omega), w64 (x := 2 * c.1 - 1) (by omega) (by omega), within_f, Option.bind_some, within_f, Option.bind_some]
  by_cases h : (decide (4 ≤ x) && decide (x ≤ 5)) = true
  · rw [if_pos h, h, Bool.true_or]
  · rw [if_neg h, Bool.eq_false_iff.2 h, Bool.false_or]
/-- The place of a record of a half. -/
def placeF (h : Int) : Nat → List Rec → Int
  | _, [] => -1
  | i, r :: l => if r.2.2.1 = h then (i : Int) else placeF h (i + 1) l
def hasHalf (l : List Rec) (h : Int) : Bool := l.any fun r => decide (r.2.2.1 = h)
theorem placeF_has (h : Int) : ∀ (l : List Rec) (i : Nat), decide (placeF h i l ≥ 0) = hasHalf l h
  | [], i => rfl
  | r :: l, i => by
    unfold placeF hasHalf
    rw [List.any_cons]
    by_cases k : r.2.2.1 = h
    · rw [if_pos k, decide_eq_true k, Bool.true_or]
      exact decide_eq_true (by omega)
    · rw [if_neg k, decide_eq_false k, Bool.false_or]
      exact placeF_has h l (i + 1)
theorem spec_l5Place_ev (l : List Rec) (h : Int) (hl : l.length ≤ 1048576) : Ev (fun k => spec_l5Place.f k l h) (placeF h 0 l) := by
  have key : ∀ i, i ≤ l.length → Ev (fun k => spec_l5Place.p6 k l h (i : Int)) (placeF h i (l.drop i)) := by
    refine down ?_ ?_
    · refine Ev.step (fun k => by rw [spec_l5Place.p6]) ?_
      rw [List.drop_eq_nil_of_le (Nat.le_refl _)]
      exact Ev.neg (by omega) (Ev.eq rfl)
    · intro i hi ih
      have hg : rdOf ((0, (0, (0, ByteArray.empty))) : Rec) l (i : Int) = l[i] := rdg hi
      refine Ev.step (fun k => by rw [spec_l5Place.p6]) ?_
      rw [w64s (i := i) (by omega), hg, List.drop_eq_getElem_cons hi, placeF]
      refine Ev.pos (by omega) (Ev.pos (by omega) (Ev.pos (by omega) ?_))
      by_cases k : (l[i]).2.2.1 = h
      · rw [if_pos k]; exact Ev.pos k (Ev.eq rfl)
      · rw [if_neg k]; exact Ev.neg k ih
  unfold spec_l5Place.f
  exact key 0 (Nat.zero_le _)
theorem impl_twice_ev (l : List Rec) (x : Rec) (hl : l.length ≤ 1048576) : Ev (fun k => slices_ContainsFunc_implRecord_at_impl_LogOf_1.f k l x) (hasHalf l x.2.2.1) := by
  have key : ∀ i, i ≤ l.length → Ev (fun k => slices_IndexFunc_implRecord_at_impl_LogOf_1.p6 k l x (l.length : Int) (i : Int)) (placeF x.2.2.1 i (l.drop i)) := by
    refine down ?_ ?_
    · refine Ev.step (fun k => by rw [slices_IndexFunc_implRecord_at_impl_LogOf_1.p6]) ?_
      rw [List.drop_eq_nil_of_le (Nat.le_refl _)]
      exact Ev.neg (by omega) (Ev.eq rfl)
    · intro i hi ih
      have hg : rdOf ((0, (0, (0, ByteArray.empty))) : Rec) l (i : Int) = l[i] := rdg hi
      refine Ev.step (fun k => by rw [slices_IndexFunc_implRecord_at_impl_LogOf_1.p6]) ?_
      rw [w64s (i := i) (by omega), hg, List.drop_eq_getElem_cons hi, placeF]
      unfold impl_LogOf_1.f
      refine Ev.pos (by omega) (Ev.pos (by omega) (Ev.pos (by omega) ?_))
      refine Ev.bindo rfl ?_
      by_cases k : (l[i]).2.2.1 = x.2.2.1
      · rw [if_pos k]; exact Ev.pos (decide_eq_true k) (Ev.eq rfl)
      · rw [if_neg k]; exact Ev.neg (by simpa using k) ih
  unfold slices_ContainsFunc_implRecord_at_impl_LogOf_1.f slices_IndexFunc_implRecord_at_impl_LogOf_1.f
  exact Ev.bind (key 0 (Nat.zero_le _)) (Ev.eq (placeF_has _ _ _))
/-- The records that are current, line by line. -/
def logF (c : Cfg) (s : ByteArray) (e : Int) : Nat → Nat → List Rec → Option (List Rec)
  | 0, _, out => some out
  | d + 1, i, out => match recO (lineB s (4 + i)) with
    | none => logF c s e d (i + 1) out
    | some r => if r.1 < e then logF c s e d (i + 1) out else if e < r.1 then none else
      if (decide (out.length = i) && (decide (r.2.1 = (i : Int)) && (canB c r.2.2.1 && !hasHalf out r.2.2.1))) = true then logF c s e d (i + 1) (out ++ [r]) else none
def logR (c : Cfg) (s : ByteArray) : Option (List Rec) := if epochR c s < 0 then none else logF c s (epochR c s) c.2.1.toNat 0 []
def outL : Option (List Rec) → List Rec × Bool
  | some l => (l, true)
  | none => ([], false)
theorem spec_LogOf_ev (c : Cfg) (s : ByteArray) (hl : c.2.2.2.length ≤ 1048576) (ht : ∀ x ∈ c.2.2.2, x.size ≤ 1048576) : Ev (fun k => spec_LogOf.f k c.1 c.2.1 c.2.2.1 c.2.2.2 s) (outL (logR c s)) := by
  unfold spec_LogOf.f logR
  refine Ev.bind (spec_EpochOf_ev c s hl ht) (Ev.cases (fun h => by rw [if_pos h]; exact Ev.eq rfl) (fun h => ?_))
  obtain ⟨hc, hz⟩ := isImageB_facts (epochR_image h)
  have hf := configOk_facts hc
  rw [if_neg h]
  generalize epochR c s = e
  have bad : ∀ (out : List Rec) (i : Nat) (r : Rec) (b : Bool), b = true → Ev (fun k => spec_LogOf.p46 k s c.1 c.2.1 c.2.2.1 c.2.2.2 e out (i : Int) r.1 r.2.1 r.2.2.1 r.2.2.2 b) (([] : List Rec), false) := by
    intro out i r b hb
    refine Ev.step (fun k => by rw [spec_LogOf.p46]) ?_
    exact Ev.pos hb (Ev.eq rfl)
  have key : ∀ (d i : Nat) (out : List Rec), i + d = c.2.1.toNat → out.length ≤ i → Ev (fun k => spec_LogOf.p18 k s c.1 c.2.1 c.2.2.1 c.2.2.2 e out (i : Int)) (outL (logF c s e d i out)) := by
    intro d
    induction d with
    | zero =>
      intro i out hi ho
      refine Ev.step (fun k => by rw [spec_LogOf.p18]) ?_
      exact Ev.neg (by omega) (Ev.eq rfl)
    | succ d ih =>
      intro i out hi ho
      have hlz : (lineB s (4 + i)).size = 64 := lineB_size (by omega)
      refine Ev.step (fun k => by rw [spec_LogOf.p18]) ?_
      rw [show wrap64 (4 + (i : Int)) = ((4 + i : Nat) : Int) from by rw [w64 (by omega) (by omega)]; omega]
      refine Ev.pos (by omega) (Ev.bindo (spec_l5Line_f s (4 + i) (by omega) (by omega)) (Ev.bind (spec_ReadRecord_ev _ hlz) ?_))
      unfold logF
      have nx : ∀ (x : Int × Int × Int × ByteArray) (b : Bool), b = true → Ev (fun k => spec_LogOf.p40 k s c.1 c.2.1 c.2.2.1 c.2.2.2 e out (i : Int) x.1 x.2.1 x.2.2.1 x.2.2.2 b) (outL (logF c s e d (i + 1) out)) := by
        intro x b hb
        refine Ev.step (fun k => by rw [spec_LogOf.p40]) ?_
        rw [w64s (i := i) (by omega)]
        exact Ev.pos hb (ih (i + 1) out (by omega) (by omega))
      cases hr : recO (lineB s (4 + i)) with
      | none =>
        simp only [outR]
        refine Ev.neg (by simp) ?_
        refine Ev.step (fun k => by rw [spec_LogOf.p32]) ?_
        exact Ev.neg (by simp) (Ev.neg (by simp) (nx (0, 0, 0, ⟨#[]⟩) true rfl))
      | some r =>
        simp only [outR]
        refine Ev.pos trivial ?_
        refine Ev.step (fun k => by rw [spec_LogOf.p32]) ?_
        by_cases g1 : r.1 > e
        · rw [if_neg (by omega), if_pos (show e < r.1 from g1)]
          exact Ev.pos (decide_eq_true g1) (Ev.eq rfl)
        refine Ev.neg (fun h => g1 (of_decide_eq_true h)) (Ev.pos rfl ?_)
        by_cases g2 : r.1 = e
        rotate_left
        · rw [if_pos (show r.1 < e by omega)]
          exact nx r _ (by rw [decide_eq_false g2]; rfl)
        rw [if_neg (by omega), if_neg (by omega)]
        refine Ev.step (fun k => by rw [spec_LogOf.p40]) ?_
        refine Ev.neg (by rw [decide_eq_true g2]; simp) ?_
        by_cases g3 : (i : Int) = (out.length : Int)
        rotate_left
        · rw [if_neg (by rw [decide_eq_false (show ¬ out.length = i by omega)]; simp)]
          exact Ev.neg g3 (bad out i r true rfl)
        rw [decide_eq_true (show out.length = i by omega), Bool.true_and]
        refine Ev.pos g3 ?_
        by_cases g4 : r.2.1 = (i : Int)
        rotate_left
        · rw [if_neg (by rw [decide_eq_false g4]; simp)]
          exact Ev.neg g4 (bad out i r true rfl)
        rw [decide_eq_true g4, Bool.true_and]
        refine Ev.pos g4 (Ev.bindo (spec_l5Half_f c hc _) ?_)
        by_cases g5 : canB c r.2.2.1 = true
        rotate_left
        · rw [if_neg (by rw [Bool.eq_false_iff.2 g5]; simp)]
          exact Ev.neg g5 (bad out i r true rfl)
        rw [g5, Bool.true_and]
        refine Ev.pos rfl (Ev.bind (spec_l5Place_ev out r.2.2.1 (by omega)) ?_)
        rw [placeF_has]
        by_cases g6 : hasHalf out r.2.2.1 = true
        · rw [if_neg (by rw [g6]; simp)]
          exact bad out i r _ g6
        rw [Bool.eq_false_iff.2 g6, if_pos (by simp)]
        refine Ev.step (fun k => by rw [spec_LogOf.p46]) ?_
        rw [w64s (i := i) (by omega)]
        exact Ev.neg (by simp) (Ev.pos (by omega) (ih (i + 1) _ (by omega) (by simp; omega)))
  exact key _ 0 [] (Nat.zero_add _) (Nat.le_refl _)
theorem impl_LogOf_ev (c : Cfg) (s : ByteArray) (ht : ∀ x ∈ c.2.2.2, x.size ≤ 1048576) : Ev (fun k => impl_LogOf.f k c.1 c.2.1 c.2.2.1 c.2.2.2 s) (outL (logR c s)) := by
  unfold impl_LogOf.f logR
  refine Ev.bind (impl_EpochOf_ev c s ht) (Ev.cases (fun h => by rw [if_pos h]; exact Ev.eq rfl) (fun h => ?_))
  obtain ⟨hc, hz⟩ := isImageB_facts (epochR_image h)
  have hf := configOk_facts hc
  rw [if_neg h]
  generalize epochR c s = e
  obtain ⟨n, hn⟩ := Int.eq_ofNat_of_zero_le (show 0 ≤ c.2.1 by omega)
  have hn : c.2.1 = (n : Int) := hn
  have bad : ∀ (out : List Rec) (i : Nat) (r : Rec) (b : Bool), b = true → Ev (fun k => impl_LogOf.p42 k s c.1 c.2.1 c.2.2.1 c.2.2.2 e out r.1 r.2.1 r.2.2.1 r.2.2.2 c.2.1 (i : Int) b) (([] : List Rec), false) := by
    intro out i r b hb
    refine Ev.step (fun k => by rw [impl_LogOf.p42]) ?_
    exact Ev.pos hb (Ev.eq rfl)
  have key : ∀ (d i : Nat) (out : List Rec), i + d = c.2.1.toNat → out.length ≤ i → Ev (fun k => impl_LogOf.p18 k s c.1 c.2.1 c.2.2.1 c.2.2.2 e out c.2.1 (i : Int)) (outL (logF c s e d i out)) := by
    intro d
    induction d with
    | zero =>
      intro i out hi ho
      refine Ev.step (fun k => by rw [impl_LogOf.p18]) ?_
      exact Ev.neg (by omega) (Ev.eq rfl)
    | succ d ih =>
      intro i out hi ho
      have hlz : (lineB s (4 + i)).size = 64 := lineB_size (by omega)
      refine Ev.step (fun k => by rw [impl_LogOf.p18]) ?_
      rw [show wrap64 (4 + (i : Int)) = ((4 + i : Nat) : Int) from by rw [w64 (by omega) (by omega)]; omega]
      refine Ev.pos (by omega) (Ev.bindo (impl_lineOf_f s (4 + i) (by omega) (by omega)) (Ev.bind (impl_ReadRecord_ev _ hlz) ?_))
      unfold logF
      have nx : ∀ (x : Int × Int × Int × ByteArray) (b : Bool), b = true → Ev (fun k => impl_LogOf.p34 k s c.1 c.2.1 c.2.2.1 c.2.2.2 e out (i : Int) x.1 x.2.1 x.2.2.1 x.2.2.2 c.2.1 (i : Int) b) (outL (logF c s e d (i + 1) out)) := by
        intro x b hb
        refine Ev.step (fun k => by rw [impl_LogOf.p34]) ?_
        rw [w64s (i := i) (by omega)]
        exact Ev.pos hb (ih (i + 1) out (by omega) (by omega))
      cases hr : recO (lineB s (4 + i)) with
      | none =>
        simp only [outR]
        exact Ev.neg (by simp) (nx (0, 0, 0, ⟨#[]⟩) true rfl)
      | some r =>
        simp only [outR]
        refine Ev.pos trivial ?_
        by_cases g0 : r.1 < e
        · rw [if_pos g0]
          exact nx r _ (decide_eq_true g0)
        rw [if_neg g0]
        refine Ev.step (fun k => by rw [impl_LogOf.p34]) ?_
        refine Ev.neg (fun h => g0 (of_decide_eq_true h)) (Ev.bind (impl_twice_ev out r (by omega)) ?_)
        by_cases g1 : r.1 > e
        · rw [if_pos (show e < r.1 from g1)]
          exact Ev.pos g1 (bad out i r true rfl)
        rw [if_neg (show ¬ e < r.1 from g1)]
        refine Ev.neg g1 (Ev.bindo rfl ?_)
        by_cases g3 : (out.length : Int) = (i : Int)
        rotate_left
        · rw [if_neg (by rw [decide_eq_false (show ¬ out.length = i by omega)]; simp)]
          exact Ev.neg g3 (bad out i r true rfl)
        rw [decide_eq_true (show out.length = i by omega), Bool.true_and]
        refine Ev.pos g3 ?_
        by_cases g4 : r.2.1 = (i : Int)
        rotate_left
        · rw [if_neg (by rw [decide_eq_false g4]; simp)]
          exact Ev.neg g4 (bad out i r true rfl)
        rw [decide_eq_true g4, Bool.true_and]
        refine Ev.pos g4 (Ev.bindo (impl_canLog_f c hc _) ?_)
        by_cases g5 : canB c r.2.2.1 = true
        rotate_left
        · rw [if_neg (by rw [Bool.eq_false_iff.2 g5]; simp)]
          exact Ev.neg g5 (bad out i r true rfl)
        rw [g5, Bool.true_and]
        refine Ev.pos rfl ?_
        by_cases g6 : hasHalf out r.2.2.1 = true
        · rw [if_neg (by rw [g6]; simp)]
          exact bad out i r _ g6
        rw [Bool.eq_false_iff.2 g6, if_pos (by simp)]
        refine Ev.step (fun k => by rw [impl_LogOf.p42]) ?_
        rw [w64s (i := i) (by omega)]
        exact Ev.neg (by simp) (Ev.pos (by omega) (ih (i + 1) _ (by omega) (by simp; omega)))
  exact key _ 0 [] (Nat.zero_add _) (Nat.le_refl _)
/-- What holds of every current record. -/
theorem logF_all {c : Cfg} {s : ByteArray} {e : Int} (hz : ∀ i : Nat, (i : Int) < c.2.1 → (lineB s (4 + i)).size = 64) : ∀ (d i : Nat) (out : List Rec) {l : List Rec}, ((i + d : Nat) : Int) ≤ c.2.1 → (∀ x ∈ out, recOk x = true ∧ canB c x.2.2.1 = true) → out.length ≤ i → logF c s e d i out = some l → (∀ x ∈ l, recOk x = true ∧ canB c x.2.2.1 = true) ∧ l.length ≤ i + d
  | 0, i, out, l, _, ho, hle, h => by
    unfold logF at h
    injection h with h
    subst h
    exact ⟨ho, by omega⟩
  | d + 1, i, out, l, hi, ho, hle, h => by
    have hw : i + 1 + d = i + (d + 1) := by omega
    unfold logF at h
    split at h
    · have := logF_all hz d (i + 1) out (by omega) ho (by omega) h
      rwa [hw] at this
    · rename_i r hr
      split at h
      · have := logF_all hz d (i + 1) out (by omega) ho (by omega) h
        rwa [hw] at this
      · split at h
        · cases h
        · split at h
          · rename_i hk
            simp only [Bool.and_eq_true] at hk
            have := logF_all hz d (i + 1) (out ++ [r]) (by omega) (fun x hx => by
              rcases List.mem_append.1 hx with hx | hx
              · exact ho x hx
              · rw [List.mem_singleton.1 hx]
                exact ⟨recO_ok (hz i (by omega)) hr, hk.2.2.1⟩) (by simp; omega) h
            rwa [hw] at this
          · cases h
theorem logR_all {c : Cfg} {s : ByteArray} {l : List Rec} (h : logR c s = some l) : isImageB c s = true ∧ (∀ x ∈ l, recOk x = true ∧ canB c x.2.2.1 = true) ∧ l.length ≤ 32 := by
  unfold logR at h
  split at h
  · cases h
  · rename_i hn
    have him := epochR_image hn
    obtain ⟨hc, hz⟩ := isImageB_facts him
    have hf := configOk_facts hc
    obtain ⟨h1, h2⟩ := logF_all (fun i hi => lineB_size (by omega)) _ 0 [] (by omega) (fun x hx => by cases hx) (Nat.le_refl _) h
    exact ⟨him, h1, by omega⟩
end Go.Proofs.YtmciidoohbmipaaDoor.Abs.Pu
namespace Go.Proofs.YtmciidoohbmipaaDoor.Abs.Pu
open Go Go.RowKit
set_option linter.unusedVariables false
set_option linter.unusedSectionVars false
set_option linter.unusedSimpArgs false
theorem spec_l2With_f (s t : ByteArray) (p : Nat) (h : p + t.size ≤ s.size) (hs : s.size ≤ 140737488355328) : spec_l2With.f s (p : Int) t = some (replB s p t) := by
  have h1 : wrap64 ((p : Int) + (t.size : Int)) = ((p + t.size : Nat) : Int) := by rw [w64 (by omega) (by omega)]; omega
  unfold spec_l2With.f replB
  rw [h1]
  simp only [Int.toNat_natCast, ByteArray.size_append, ByteArray.size_extract]
  rw [if_pos (by omega), if_pos (by omega), if_pos (by omega), if_pos (by omega), if_pos (by omega), if_pos (by omega)]
theorem impl_replaced_f (s t : ByteArray) (p : Nat) (h : p + t.size ≤ s.size) (hs : s.size ≤ 140737488355328) : impl_replaced.f s (p : Int) t = some (replB s p t) := by
  have h1 : wrap64 ((p : Int) + (t.size : Int)) = ((p + t.size : Nat) : Int) := by rw [w64 (by omega) (by omega)]; omega
  unfold impl_replaced.f replB
  rw [h1]
  simp only [Int.toNat_natCast, ByteArray.size_append, ByteArray.size_extract]
  rw [if_pos (by omega), if_pos (by omega), if_pos (by omega), if_pos (by omega), if_pos (by omega), if_pos (by omega)]
end Go.Proofs.YtmciidoohbmipaaDoor.Abs.Pu
namespace Go.Proofs.YtmciidoohbmipaaDoor.Abs.Pu
open Go Go.RowKit
set_option linter.unusedVariables false
set_option linter.unusedSectionVars false
set_option linter.unusedSimpArgs false
theorem impl_ReadSuper_ev (s : ByteArray) (hz : s.size = 64) : Ev (fun k => impl_ReadSuper.f k s) (out5 (implR s)) := by
  have hb10 := bt_range s 10
  have ht : (s.extract 0 60).size = 60 := by rw [ByteArray.size_extract]; omega
  have bad : ∀ (t : ByteArray) (b : Bool), b = true → implR s = none → Ev (fun k => impl_ReadSuper.p7 k s 0 0 0 t b) (out5 (implR s)) := by
    intro t b hb h
    refine Ev.step (fun k => by rw [impl_ReadSuper.p7]) ?_
    rw [hb, h]
    exact Ev.pos rfl (Ev.eq rfl)
  unfold impl_ReadSuper.f
  have hU : Ev (fun k => impl_Unsealed.f k s) (if crcB (s.extract 0 60) = s.extract 60 64 then (s.extract 0 60, true) else (⟨#[]⟩, false)) := by
    unfold impl_Unsealed.f
    rw [show (s.size : Int).toNat = 64 from by omega]
    refine Ev.pos (by omega) (Ev.pos (by omega) (Ev.bind (impl_Crc_ev _ (by omega)) (Ev.pos (by omega) ?_)))
    by_cases h : crcB (s.extract 0 60) = s.extract 60 64
    · rw [if_pos h]
      exact Ev.pos (toList_inj.2 h) (Ev.pos (by omega) (Ev.eq rfl))
    · rw [if_neg h]
      exact Ev.neg (fun e => h (toList_inj.1 e)) (Ev.eq rfl)
  refine Ev.bind hU ?_
  by_cases hcrc : crcB (s.extract 0 60) = s.extract 60 64
  rotate_left
  · rw [if_neg hcrc]
    exact Ev.neg (by simp) (bad _ _ rfl (by unfold implR; rw [if_neg (fun h => hcrc h.1)]))
  rw [if_pos hcrc]
  have bx : ∀ i : Nat, i < 60 → bt (s.extract 0 60) (i : Int) = bt s (i : Int) := fun i hi => by
    have := bt_extract s 0 60 i (by omega) (by omega)
    rwa [Nat.zero_add] at this
  have b10 : bt (s.extract 0 60) 10 = bt s 10 := bx 10 (by omega)
  refine Ev.pos rfl (Ev.pos (by simp only [ht]; decide) ?_)
  rw [byteAt_eq, b10]
  by_cases h12 : bt s 10 ≤ 12
  rotate_left
  · exact bad _ _ (decide_eq_true (by omega)) (by unfold implR; rw [if_neg (fun h => h12 h.2.1)])
  rw [decide_eq_false (by omega)]
  simp only []
  have rdx : ∀ p : Nat, p + 2 ≤ 60 → rdS (s.extract 0 60) p = rdS s p := fun p hp => by
    unfold rdS
    rw [bx p (by omega), bx (p + 1) (by omega)]
  have a4 := impl_ReadShort_f (s.extract 0 60) 4 (by omega)
  have a6 := impl_ReadShort_f (s.extract 0 60) 6 (by omega)
  have a8 := impl_ReadShort_f (s.extract 0 60) 8 (by omega)
  rw [rdx 4 (by omega)] at a4
  rw [rdx 6 (by omega)] at a6
  rw [rdx 8 (by omega)] at a8
  have hpart : ∀ k : Nat, k < 12 → ((s.extract 0 60).extract (11 + 4 * k) (15 + 4 * k)).size = 4 ∧ ∀ i : Nat, i < 4 → bt ((s.extract 0 60).extract (11 + 4 * k) (15 + 4 * k)) (i : Int) = bt s ((11 + 4 * k + i : Nat) : Int) := fun k hk => by
    refine ⟨by rw [ByteArray.size_extract]; omega, fun i hi => ?_⟩
    rw [bt_extract _ _ _ _ (by omega) (by omega), bx _ (by omega)]
  have hIy : configOk (implCfg s) = true → superR (implCfg s) = s → implR s = some (implCfg s) := fun a b => by unfold implR; rw [if_pos ⟨hcrc, h12, a, b⟩]
  have hIn : ¬ (configOk (implCfg s) = true ∧ superR (implCfg s) = s) → implR s = none := fun a => by unfold implR; rw [if_neg (fun h => a h.2.2)]
  generalize s.extract 0 60 = t at *
  refine Ev.step (fun k => by rw [impl_ReadSuper.p7]) ?_
  rw [byteAt_eq, b10, w64 (x := bt s 10) (by omega) (by omega)]
  refine Ev.neg (by simp) (Ev.pos (by omega) (Ev.bindo a4 (Ev.pos (by omega) (Ev.bindo a6 (Ev.pos (by omega) (Ev.bindo a8 (Ev.pos (by omega) ?_)))))))
  simp only []
  have loop : ∀ (d k : Nat), k + d = (bt s 10).toNat → Ev (fun n => impl_ReadSuper.p24 n s 0 0 0 t (rdS s 4) (rdS s 6) (rdS s 8) (implT s k) (bt s 10) (k : Int)) (out5 (implR s)) := by
    intro d
    induction d with
    | zero =>
      intro k hk
      have hke : k = (bt s 10).toNat := by omega
      subst hke
      have hsz : ∀ x ∈ (implCfg s).2.2.2, x.size ≤ 1048576 := fun x hx => by
        obtain ⟨k, _, rfl⟩ := List.mem_map.1 (show x ∈ (List.range _).map _ from hx)
        rw [typAt_size]
        have := (cntAt_eq s k).2
        omega
      have hC := impl_ConfigOk_ev (implCfg s) hsz
      have hS := impl_SuperLine_ev (implCfg s) hsz
      refine Ev.step (fun n => by rw [impl_ReadSuper.p24]) ?_
      refine Ev.neg (by omega) (Ev.bind hC ?_)
      by_cases hc : configOk (implCfg s) = true
      rotate_left
      · rw [hIn (fun h => hc h.1)]
        exact Ev.neg hc (Ev.eq rfl)
      refine Ev.pos hc (Ev.bind hS ?_)
      by_cases h : superR (implCfg s) = s
      · rw [hIy hc h]
        exact Ev.pos (toList_inj.2 h) (Ev.eq rfl)
      · rw [hIn (fun e => h e.2)]
        exact Ev.neg (fun e => h (toList_inj.1 e)) (Ev.eq rfl)
    | succ d ih =>
      intro k hk
      have hk1 : (k : Int) < bt s 10 := by omega
      have hk2 : k < 12 := by omega
      have nx := ih (k + 1) (by omega)
      rw [implT_succ] at nx
      obtain ⟨hc1, hc2⟩ := cntAt_eq s k
      obtain ⟨hp1, hp2⟩ := hpart k hk2
      have p0 : bt (t.extract (11 + 4 * k) (15 + 4 * k)) 0 = bt s ((11 + 4 * k : Nat) : Int) := hp2 0 (by omega)
      have p1 : bt (t.extract (11 + 4 * k) (15 + 4 * k)) 1 = bt s ((11 + 4 * k + 1 : Nat) : Int) := hp2 1 (by omega)
      have p2 : bt (t.extract (11 + 4 * k) (15 + 4 * k)) 2 = bt s ((11 + 4 * k + 2 : Nat) : Int) := hp2 2 (by omega)
      have p3 : bt (t.extract (11 + 4 * k) (15 + 4 * k)) 3 = bt s ((11 + 4 * k + 3 : Nat) : Int) := hp2 3 (by omega)
      have g1 : ((15 + 4 * k : Nat) : Int) ≤ (t.size : Int) := by omega
      have g2 : ((11 + 4 * k : Nat) : Int) ≤ ((15 + 4 * k : Nat) : Int) := by omega
      have z0 : ∀ n : Nat, (0 : Int) ≤ (n : Int) := fun n => by omega
      have gk : k ≤ 4611686018427387904 := by omega
      have gc : -9223372036854775808 ≤ (cntAt s k : Int) ∧ (cntAt s k : Int) ≤ 9223372036854775807 := by omega
      have hTl := implT_length s k
      refine Ev.step (fun n => by rw [impl_ReadSuper.p24]) ?_
      rw [wi1 k (by omega), ws1 k (by omega), Int.toNat_natCast, Int.toNat_natCast]
      generalize t.extract (11 + 4 * k) (15 + 4 * k) = x at *
      rw [byteAt_eq, byteAt_eq, byteAt_eq, byteAt_eq]
      rw [p0, p1, p2, p3, hc1, w64 gc.1 gc.2]
      refine Ev.pos hk1 (Ev.pos (z0 _) (Ev.pos g1 (Ev.pos (z0 _) (Ev.pos g2 (Ev.pos (by omega) (Ev.pos (by omega) (Ev.pos (by omega) (Ev.pos (by omega) ?_))))))))
      show Ev (fun n => impl_ReadSuper.p45 n s 0 0 0 t (rdS s 4) (rdS s 6) (rdS s 8) (implT s k) (maskAt s k) [] (bt s 10) (k : Int) (cntAt s k : Int) 0) _
      clear ih p0 p1 p2 p3 hp2 hpart bx
      have inner : ∀ (e j : Nat), j + e = cntAt s k → Ev (fun n => impl_ReadSuper.p45 n s 0 0 0 t (rdS s 4) (rdS s 6) (rdS s 8) (implT s k) (maskAt s k) (kindsL (maskAt s k) j) (bt s 10) (k : Int) (cntAt s k : Int) (j : Int)) (out5 (implR s)) := by
        intro e
        induction e with
        | zero =>
          intro j hj
          have hje : j = cntAt s k := by omega
          refine Ev.step (fun n => by rw [impl_ReadSuper.p45]) ?_
          have gT : (implT s k).length + 1 ≤ 8796093022208 := by omega
          rw [w64s (i := k) gk]
          rw [← hje] at nx ⊢
          exact Ev.neg (by omega) (Ev.pos gT nx)
        | succ e ihe =>
          intro j hj
          have nj := ihe (j + 1) (by omega)
          have hl := kindsL_length (maskAt s k) j
          have gj2 : j ≤ 4611686018427387904 := by omega
          have gj3 : ¬ (j : Int) < 0 := by omega
          have gj4 : (j : Int) < (cntAt s k : Int) := by omega
          have gj5 : (kindsL (maskAt s k) j).length + 1 ≤ 140737488355328 := by omega
          rw [kindsL_succ] at nj
          unfold kindI at nj
          refine Ev.step (fun n => by rw [impl_ReadSuper.p45]) ?_
          rw [w64s (i := j) gj2]
          refine Ev.pos gj4 (Ev.neg gj3 ?_)
          by_cases c : andA .i64 (shrA .i64 (maskAt s k) (j : Int)) 1 = 1
          · rw [if_pos c] at nj
            exact Ev.pos c (Ev.pos gj5 nj)
          · rw [if_neg c] at nj
            exact Ev.neg c (Ev.pos gj5 nj)
      exact inner _ 0 (Nat.zero_add _)
  exact loop _ 0 (Nat.zero_add _)
end Go.Proofs.YtmciidoohbmipaaDoor.Abs.Pu
namespace Go.Proofs.YtmciidoohbmipaaDoor.Abs.Pu
open Go Go.RowKit
set_option linter.unusedVariables false
set_option linter.unusedSectionVars false
set_option linter.unusedSimpArgs false
def cfgR (s : ByteArray) : Option Cfg := if 64 ≤ s.size then (match specR (s.extract 0 64) with | some c => if (s.size : Int) = 64 * c.1 then some c else none | none => none) else none
theorem specR_ok {s : ByteArray} {c : Cfg} (h : specR s = some c) (hz : s.size = 64) : configOk c = true := by
  unfold specR at h
  split at h
  · rename_i k
    injection h with h
    rw [← h]
    exact superR_ok k hz
  · cases h
theorem cfgR_no1 {s : ByteArray} (h : ¬ 64 ≤ s.size) : cfgR s = none := by
  unfold cfgR
  rw [if_neg h]
theorem cfgR_no2 {s : ByteArray} (h : 64 ≤ s.size) (hc : specR (s.extract 0 64) = none) : cfgR s = none := by
  unfold cfgR
  rw [if_pos h, hc]
theorem cfgR_no3 {s : ByteArray} {c : Cfg} (h : 64 ≤ s.size) (hc : specR (s.extract 0 64) = some c) (k : ¬ (s.size : Int) = 64 * c.1) : cfgR s = none := by
  unfold cfgR
  rw [if_pos h, hc]
  exact if_neg k
theorem cfgR_yes {s : ByteArray} {c : Cfg} (h : 64 ≤ s.size) (hc : specR (s.extract 0 64) = some c) (k : (s.size : Int) = 64 * c.1) : cfgR s = some c := by
  unfold cfgR
  rw [if_pos h, hc]
  exact if_pos k
theorem spec_ConfigOf_ev (s : ByteArray) (hs : s.size ≤ 140737488355328) : Ev (fun k => spec_ConfigOf.f k s) (out5 (cfgR s)) := by
  unfold spec_ConfigOf.f
  by_cases h : 64 ≤ s.size
  rotate_left
  · rw [cfgR_no1 h]
    exact Ev.pos (by omega) (Ev.eq rfl)
  have hz : (s.extract 0 64).size = 64 := by rw [ByteArray.size_extract]; omega
  refine Ev.neg (by omega) (Ev.pos (by omega) (Ev.bind (spec_ReadSuper_ev _ hz) ?_))
  cases hc : specR (s.extract 0 64) with
  | none =>
    rw [cfgR_no2 h hc]
    exact Ev.neg (by simp [out5]) (Ev.eq rfl)
  | some c =>
    have hf := configOk_facts (specR_ok hc hz)
    have hw : wrap64 (64 * c.1) = 64 * c.1 := w64 (by omega) (by omega)
    refine Ev.pos rfl ?_
    by_cases k : (s.size : Int) = 64 * c.1
    · rw [cfgR_yes h hc k]
      exact Ev.pos (k.trans hw.symm) (Ev.eq rfl)
    · rw [cfgR_no3 h hc k]
      exact Ev.neg (fun e => k (Eq.trans e hw)) (Ev.eq rfl)
theorem impl_ConfigOf_ev (s : ByteArray) (hs : s.size ≤ 140737488355328) : Ev (fun k => impl_ConfigOf.f k s) (out5 (cfgR s)) := by
  unfold impl_ConfigOf.f
  by_cases h : 64 ≤ s.size
  rotate_left
  · rw [cfgR_no1 h]
    exact Ev.pos (by omega) (Ev.eq rfl)
  have hz : (s.extract 0 64).size = 64 := by rw [ByteArray.size_extract]; omega
  have hR := impl_ReadSuper_ev _ hz
  rw [read_same hz] at hR
  refine Ev.neg (by omega) (Ev.pos (by omega) (Ev.bind hR ?_))
  cases hc : specR (s.extract 0 64) with
  | none =>
    rw [cfgR_no2 h hc]
    exact Ev.neg (by simp [out5]) (Ev.eq rfl)
  | some c =>
    have hok := specR_ok hc hz
    have hf := configOk_facts hok
    have hsm := types_small hf.2.2.2.2.2.2.2
    have hI := impl_isImage_ev c s (fun x hx => by have := hsm x hx; omega)
    have hB : isImageB c s = decide ((s.size : Int) = 64 * c.1) := by unfold isImageB; rw [hok, Bool.true_and]
    rw [hB] at hI
    refine Ev.pos rfl (Ev.bind hI ?_)
    by_cases k : (s.size : Int) = 64 * c.1
    · rw [cfgR_yes h hc k]
      exact Ev.pos (decide_eq_true k) (Ev.eq rfl)
    · rw [cfgR_no3 h hc k]
      exact Ev.neg (fun e => k (of_decide_eq_true e)) (Ev.eq rfl)
theorem cfgR_small {s : ByteArray} {c : Cfg} (h : cfgR s = some c) : c.2.2.2.length ≤ 12 := by
  unfold cfgR at h
  split at h
  · rename_i k
    have hz : (s.extract 0 64).size = 64 := by rw [ByteArray.size_extract]; omega
    cases hc : specR (s.extract 0 64) with
    | none => rw [hc] at h; cases h
    | some c' =>
      rw [hc] at h
      simp only [] at h
      split at h
      · injection h with h
        subst h
        exact (types_len (configOk_facts (specR_ok hc hz)).2.2.2.2.2.2.2).2
      · cases h
  · cases h
end Go.Proofs.YtmciidoohbmipaaDoor.Abs.Pu
namespace Go.Proofs.YtmciidoohbmipaaDoor.Abs.Pu
open Go Go.RowKit
set_option linter.unusedVariables false
set_option linter.unusedSectionVars false
set_option linter.unusedSimpArgs false
def backB (s : ByteArray) (r : Rec) : ByteArray := replB s (32 * r.2.2.1).toNat r.2.2.2
def undoB (l : List Rec) (s : ByteArray) : ByteArray := l.foldr (fun r s => backB s r) s
theorem back_fits {c : Cfg} {s : ByteArray} {r : Rec} (hc : configOk c = true) (hz : (s.size : Int) = 64 * c.1) (h : recOk r = true ∧ canB c r.2.2.1 = true) : 0 ≤ r.2.2.1 ∧ (32 * r.2.2.1).toNat + r.2.2.2.size ≤ s.size ∧ r.2.2.1 ≤ 300 := by
  have hf := configOk_facts hc
  obtain ⟨h1, h2, h3, h4, h5, h6, h7⟩ := recOk_facts h.1
  have h8 := h.2
  unfold canB at h8
  simp only [Bool.or_eq_true, Bool.and_eq_true, decide_eq_true_eq] at h8
  omega
theorem back_size {c : Cfg} {s : ByteArray} {r : Rec} (hc : configOk c = true) (hz : (s.size : Int) = 64 * c.1) (h : recOk r = true ∧ canB c r.2.2.1 = true) : ((backB s r).size : Int) = 64 * c.1 := by
  unfold backB
  rw [repl_size (back_fits hc hz h).2.1]
  exact hz
theorem undo_size {c : Cfg} {s : ByteArray} (hc : configOk c = true) (hz : (s.size : Int) = 64 * c.1) : ∀ (l : List Rec), (∀ r ∈ l, recOk r = true ∧ canB c r.2.2.1 = true) → ((undoB l s).size : Int) = 64 * c.1
  | [], _ => hz
  | r :: l, h => back_size hc (undo_size hc hz l (fun x hx => h x (List.mem_cons_of_mem _ hx))) (h r List.mem_cons_self)
def undoneO (s : ByteArray) : Option ByteArray := match cfgR s with
  | none => none
  | some c => match logR c s with
    | none => none
    | some l => some (undoB l s)
def outU : Option ByteArray → ByteArray × Bool
  | some s => (s, true)
  | none => (⟨#[]⟩, false)
theorem cfgR_img {s : ByteArray} {c : Cfg} (h : cfgR s = some c) : (∀ x ∈ c.2.2.2, x.size ≤ 1048576) ∧ c.2.2.2.length ≤ 1048576 := by
  have h2 := cfgR_small h
  unfold cfgR at h
  split at h
  · rename_i k
    have hz : (s.extract 0 64).size = 64 := by rw [ByteArray.size_extract]; omega
    cases hc : specR (s.extract 0 64) with
    | none => rw [hc] at h; cases h
    | some c' =>
      rw [hc] at h
      simp only [] at h
      split at h
      · injection h with h
        subst h
        have hsm := types_small (configOk_facts (specR_ok hc hz)).2.2.2.2.2.2.2
        exact ⟨fun x hx => by have := hsm x hx; omega, by omega⟩
      · cases h
  · cases h
theorem spec_Undone_ev (s : ByteArray) (hs : s.size ≤ 1048576) : Ev (fun k => spec_Undone.f k s) (outU (undoneO s)) := by
  unfold spec_Undone.f undoneO
  refine Ev.bind (spec_ConfigOf_ev s (by omega)) ?_
  cases hc : cfgR s with
  | none => simp only [out5]; exact Ev.neg (by simp) (Ev.eq rfl)
  | some c =>
    obtain ⟨t1, t2⟩ := cfgR_img hc
    simp only [out5]
    refine Ev.pos trivial (Ev.bind (spec_LogOf_ev c s t2 t1) ?_)
    cases hl : logR c s with
    | none => simp only [outL]; exact Ev.neg (by simp) (Ev.eq rfl)
    | some l =>
      obtain ⟨him, hall, hlen⟩ := logR_all hl
      obtain ⟨hco, hz⟩ := isImageB_facts him
      simp only [outL]
      refine Ev.pos trivial ?_
      have key : ∀ i, i ≤ l.length → Ev (fun k => spec_Undone.p26 k (undoB (l.drop i) s) l (wrap64 ((i : Int) - 1))) (undoB l s, true) := by
        intro i
        induction i with
        | zero =>
          intro _
          refine Ev.step (fun k => by rw [spec_Undone.p26]) ?_
          rw [w64 (by omega) (by omega), List.drop_zero]
          exact Ev.neg (by omega) (Ev.eq rfl)
        | succ i ih =>
          intro hi
          have hg : rdOf ((0, (0, (0, ByteArray.empty))) : Rec) l (i : Int) = l[i] := rdg hi
          have hm := hall _ (List.getElem_mem hi)
          have hz' := undo_size hco hz (l.drop (i + 1)) (fun x hx => hall x (List.mem_of_mem_drop hx))
          have hfit := back_fits hco hz' hm
          have hf := configOk_facts hco
          have hf2 := spec_l2With_f _ _ _ hfit.2.1 (by omega)
          rw [Int.toNat_of_nonneg (by omega)] at hf2
          have ih := ih (by omega)
          rw [List.drop_eq_getElem_cons hi] at ih
          refine Ev.step (fun k => by rw [spec_Undone.p26]) ?_
          rw [show wrap64 (((i + 1 : Nat) : Int) - 1) = (i : Int) from by rw [w64 (by omega) (by omega)]; omega, hg, w64 (x := 32 * (l[i]).2.2.1) (by omega) (by omega)]
          exact Ev.pos (by omega) (Ev.pos (by omega) (Ev.pos (by omega) (Ev.pos (by omega) (Ev.pos (by omega) (Ev.bindo hf2 ih)))))
      have h := key l.length (Nat.le_refl _)
      rw [List.drop_eq_nil_of_le (Nat.le_refl _)] at h
      exact h
theorem impl_Undone_ev (s : ByteArray) (hs : s.size ≤ 1048576) : Ev (fun k => impl_Undone.f k s) (outU (undoneO s)) := by
  unfold impl_Undone.f impl_undone.f undoneO
  have un : ∀ {g : Nat → Option (Int × Int × Int × List ByteArray × ByteArray × Bool)} {r : Int × Int × Int × List ByteArray × ByteArray × Bool} {o : ByteArray × Bool}, Ev g r → (r.2.2.2.2.1, r.2.2.2.2.2) = o → Ev (fun k => (g k).bind fun t1 => some (t1.2.2.2.2.1, t1.2.2.2.2.2)) o := fun h e => Ev.bind h (Ev.eq e)
  cases hc : cfgR s with
  | none =>
    have h1 := impl_ConfigOf_ev s (by omega)
    rw [hc] at h1
    exact un (Ev.bind h1 (Ev.neg (by simp [out5]) (Ev.eq rfl))) rfl
  | some c =>
    have h1 := impl_ConfigOf_ev s (by omega)
    rw [hc] at h1
    obtain ⟨t1, t2⟩ := cfgR_img hc
    have h2 := impl_LogOf_ev c s t1
    cases hl : logR c s with
    | none =>
      rw [hl] at h2
      exact un (Ev.bind h1 (Ev.pos rfl (Ev.bind h2 (Ev.neg (by simp [outL]) (Ev.eq rfl))))) (by simp only [hl]; rfl)
    | some l =>
      rw [hl] at h2
      obtain ⟨him, hall, hlen⟩ := logR_all hl
      obtain ⟨hco, hz⟩ := isImageB_facts him
      have key : ∀ i, i ≤ l.length → Ev (fun k => impl_undone.p26 k (undoB (l.drop i) s) 0 0 0 c.1 c.2.1 c.2.2.1 c.2.2.2 l (wrap64 ((i : Int) - 1))) (c.1, c.2.1, c.2.2.1, c.2.2.2, undoB l s, true) := by
        intro i
        induction i with
        | zero =>
          intro _
          refine Ev.step (fun k => by rw [impl_undone.p26]) ?_
          rw [w64 (by omega) (by omega), List.drop_zero]
          exact Ev.neg (by omega) (Ev.eq rfl)
        | succ i ih =>
          intro hi
          have hg : rdOf ((0, (0, (0, ByteArray.empty))) : Rec) l (i : Int) = l[i] := rdg hi
          have hm := hall _ (List.getElem_mem hi)
          have hz' := undo_size hco hz (l.drop (i + 1)) (fun x hx => hall x (List.mem_of_mem_drop hx))
          have hfit := back_fits hco hz' hm
          have hf := configOk_facts hco
          have hf2 := impl_replaced_f _ _ _ hfit.2.1 (by omega)
          rw [Int.toNat_of_nonneg (by omega)] at hf2
          have ih := ih (by omega)
          rw [List.drop_eq_getElem_cons hi] at ih
          refine Ev.step (fun k => by rw [impl_undone.p26]) ?_
          rw [show wrap64 (((i + 1 : Nat) : Int) - 1) = (i : Int) from by rw [w64 (by omega) (by omega)]; omega, hg, w64 (x := 32 * (l[i]).2.2.1) (by omega) (by omega)]
          exact Ev.pos (by omega) (Ev.pos (by omega) (Ev.pos (by omega) (Ev.pos (by omega) (Ev.pos (by omega) (Ev.bindo hf2 ih)))))
      have h := key l.length (Nat.le_refl _)
      rw [List.drop_eq_nil_of_le (Nat.le_refl _)] at h
      exact un (Ev.bind h1 (Ev.pos rfl (Ev.bind h2 (Ev.pos rfl h)))) (by simp only [hl]; rfl)
theorem FnExactUndone : laws_FnExactUndone.Pure := by
  intro s os
  refine Ev.rounds ?_
  unfold laws_FnExactUndone.f
  refine Ev.cases (fun _ => Ev.eq rfl) (fun c0 => ?_)
  exact Ev.bind (spec_Undone_ev s (by omega)) (Ev.bind (impl_Undone_ev s (by omega)) (Ev.pos rfl (Ev.pos rfl (Ev.eq rfl))))
end Go.Proofs.YtmciidoohbmipaaDoor.Abs.Pu
namespace Go.Proofs
open Go.Shelf
def Tryd.lays231_ren : Go.Shelf.Ren := ⟨fun | 231 => 69 | n => n, fun | 9 => 9 | 5 => 5 | 3 => 3 | 4 => 4 | n => n, fun | n => n⟩
theorem Tryd.lays231 : Go.Proofs.Lays.n231 Tryd.prog Tryd.lays231_ren := {
  mixed := by kernel_rfl
  f231 := Tryd.func69.trans (congrArg some (by kernel_rfl))
  t3 := Tryd.underlying3
  a3 := Tryd.isAgg3
  z3 := Tryd.sizeOf3
  v3 := Tryd.zeroValue3
  t4 := Tryd.underlying4
  a4 := Tryd.isAgg4
  z4 := Tryd.sizeOf4
  v4 := Tryd.zeroValue4
  t5 := Tryd.underlying5
  a5 := Tryd.isAgg5
  z5 := Tryd.sizeOf5
  v5 := Tryd.zeroValue5
  t9 := Tryd.underlying9
  a9 := Tryd.isAgg9
  z9 := Tryd.sizeOf9
  v9 := Tryd.zeroValue9 }
open Go.RowKit in
/-- strings.trimLeftByte (no doc; what TrimLeft and Trim call at a cutset of one ASCII byte): the leading bytes that are c are cut off. The world is as it was. (LAID: no walk: one application.) -/
theorem Tryd.strings_trimLeftByte (s : ByteArray) (c : UInt8) (w : World) :
    Calls Tryd.prog 69 #[.string s, .int .u8 c.toNat] w fun e w' => e = .returned (.string ⟨(Lib.trimLeftB s.data.toList c).toArray⟩) ∧ w' = w := Any.strings_trimLeftByte Tryd.lays231 s c w
def Tryd.lays232_ren : Go.Shelf.Ren := ⟨fun | 232 => 70 | n => n, fun | 9 => 9 | 5 => 5 | 3 => 3 | 4 => 4 | n => n, fun | n => n⟩
theorem Tryd.lays232 : Go.Proofs.Lays.n232 Tryd.prog Tryd.lays232_ren := {
  mixed := by kernel_rfl
  f232 := Tryd.func70.trans (congrArg some (by kernel_rfl))
  t3 := Tryd.underlying3
  a3 := Tryd.isAgg3
  z3 := Tryd.sizeOf3
  v3 := Tryd.zeroValue3
  t4 := Tryd.underlying4
  a4 := Tryd.isAgg4
  z4 := Tryd.sizeOf4
  v4 := Tryd.zeroValue4
  t5 := Tryd.underlying5
  a5 := Tryd.isAgg5
  z5 := Tryd.sizeOf5
  v5 := Tryd.zeroValue5
  t9 := Tryd.underlying9
  a9 := Tryd.isAgg9
  z9 := Tryd.sizeOf9
  v9 := Tryd.zeroValue9 }
open Go.RowKit in
/-- strings.trimRightByte (no doc; what TrimRight and Trim call at a cutset of one ASCII byte): the trailing bytes that are c are cut off. The world is as it was. ('hs': a string's length is a number that an int holds.) (LAID: no walk: one application.) -/
theorem Tryd.strings_trimRightByte (s : ByteArray) (c : UInt8) (w : World) (hs : s.size ≤ 9223372036854775807) :
    Calls Tryd.prog 70 #[.string s, .int .u8 c.toNat] w fun e w' => e = .returned (.string ⟨(Lib.trimRightB s.data.toList c).toArray⟩) ∧ w' = w := Any.strings_trimRightByte Tryd.lays232 s c w hs
def Tryd.lays160_ren : Go.Shelf.Ren := ⟨fun | 160 => 67 | 232 => 70 | 231 => 69 | 227 => 71 | 234 => 73 | 233 => 72 | 236 => 75 | 235 => 74 | 228 => 82 | 271 => 85 | 151 => 84 | 197 => 83 | 120 => 93 | 152 => 92 | 260 => 91 | 137 => 96 | 119 => 97 | 224 => 98 | 225 => 99 | 217 => 100 | 266 => 101 | n => n, fun | 9 => 9 | 4 => 4 | 3 => 3 | 5 => 5 | 117 => 73 | 116 => 72 | 0 => 0 | 124 => 76 | 21 => 21 | 105 => 91 | 46 => 46 | 119 => 103 | 139 => 106 | 138 => 105 | n => n, fun | 3 => 0 | 4 => 1 | n => n⟩
theorem Tryd.lays160 : Go.Proofs.Lays.n160 Tryd.prog Tryd.lays160_ren := {
  mixed := by kernel_rfl
  f119 := Tryd.func97.trans (congrArg some (by kernel_rfl))
  f120 := Tryd.func93.trans (congrArg some (by kernel_rfl))
  f137 := Tryd.func96.trans (congrArg some (by kernel_rfl))
  f151 := Tryd.func84.trans (congrArg some (by kernel_rfl))
  f152 := Tryd.func92.trans (congrArg some (by kernel_rfl))
  f160 := Tryd.func67.trans (congrArg some (by kernel_rfl))
  f197 := Tryd.func83.trans (congrArg some (by kernel_rfl))
  f217 := Tryd.func100.trans (congrArg some (by kernel_rfl))
  f224 := Tryd.func98.trans (congrArg some (by kernel_rfl))
  f225 := Tryd.func99.trans (congrArg some (by kernel_rfl))
  f227 := Tryd.func71.trans (congrArg some (by kernel_rfl))
  f228 := Tryd.func82.trans (congrArg some (by kernel_rfl))
  f231 := Tryd.func69.trans (congrArg some (by kernel_rfl))
  f232 := Tryd.func70.trans (congrArg some (by kernel_rfl))
  f233 := Tryd.func72.trans (congrArg some (by kernel_rfl))
  f234 := Tryd.func73.trans (congrArg some (by kernel_rfl))
  f235 := Tryd.func74.trans (congrArg some (by kernel_rfl))
  f236 := Tryd.func75.trans (congrArg some (by kernel_rfl))
  f260 := Tryd.func91.trans (congrArg some (by kernel_rfl))
  f266 := Tryd.func101.trans (congrArg some (by kernel_rfl))
  f271 := Tryd.func85.trans (congrArg some (by kernel_rfl))
  t0 := Tryd.underlying0
  a0 := Tryd.isAgg0
  z0 := Tryd.sizeOf0
  v0 := Tryd.zeroValue0
  t3 := Tryd.underlying3
  a3 := Tryd.isAgg3
  z3 := Tryd.sizeOf3
  v3 := Tryd.zeroValue3
  t4 := Tryd.underlying4
  a4 := Tryd.isAgg4
  z4 := Tryd.sizeOf4
  v4 := Tryd.zeroValue4
  t5 := Tryd.underlying5
  a5 := Tryd.isAgg5
  z5 := Tryd.sizeOf5
  v5 := Tryd.zeroValue5
  t9 := Tryd.underlying9
  a9 := Tryd.isAgg9
  z9 := Tryd.sizeOf9
  v9 := Tryd.zeroValue9
  t21 := Tryd.underlying21
  a21 := Tryd.isAgg21
  z21 := Tryd.sizeOf21
  v21 := Tryd.zeroValue21
  t46 := Tryd.underlying46
  a46 := Tryd.isAgg46
  z46 := Tryd.sizeOf46
  v46 := Tryd.zeroValue46
  t105 := Tryd.underlying91
  a105 := Tryd.isAgg91
  z105 := Tryd.sizeOf91
  v105 := Tryd.zeroValue91
  t116 := Tryd.underlying72
  a116 := Tryd.isAgg72
  z116 := Tryd.sizeOf72
  t117 := Tryd.underlying73
  a117 := Tryd.isAgg73
  z117 := Tryd.sizeOf73
  v117 := Tryd.zeroValue73
  t119 := Tryd.underlying103
  a119 := Tryd.isAgg103
  z119 := Tryd.sizeOf103
  t124 := Tryd.underlying76
  a124 := Tryd.isAgg76
  z124 := Tryd.sizeOf76
  v124 := Tryd.zeroValue76
  t138 := Tryd.underlying105
  a138 := Tryd.isAgg105
  z138 := Tryd.sizeOf105
  v138 := Tryd.zeroValue105
  t139 := Tryd.underlying106
  a139 := Tryd.isAgg106
  z139 := Tryd.sizeOf106
  v139 := Tryd.zeroValue106
  g3 := by kernel_rfl
  g4 := by kernel_rfl }
open Go.RowKit in
/-- strings.Trim: "Trim returns a slice of the string s with all leading and trailing Unicode code points contained in cutset removed.": AT A cutset OF ONE ASCII BYTE. THE WORLD BEHIND IT: as it was, or (where s is not empty) with ONE DRAW MORE off the tape: the statement 'return trimLeftByte(trimRightByte(s, c), c)' draws its order of evaluation. (LAID: no walk: one application.) -/
theorem Tryd.strings_Trim_one (s : ByteArray) (c : UInt8) (hc : c.toNat < 128) (w : World) (hs : s.size ≤ 9223372036854775807) :
    Calls Tryd.prog 67 #[.string s, .string ⟨#[c]⟩] w fun e w' => e = .returned (.string ⟨(Lib.trimB s.data.toList c).toArray⟩) ∧ (w' = w ∨ w' = w.drew) := Any.strings_Trim_one Tryd.lays160 s c hc w hs
def Tryd.lays119_ren : Go.Shelf.Ren := ⟨fun | 119 => 97 | n => n, fun | 21 => 21 | 4 => 4 | n => n, fun | n => n⟩
theorem Tryd.lays119 : Go.Proofs.Lays.n119 Tryd.prog Tryd.lays119_ren := {
  mixed := by kernel_rfl
  f119 := Tryd.func97.trans (congrArg some (by kernel_rfl))
  t4 := Tryd.underlying4
  a4 := Tryd.isAgg4
  z4 := Tryd.sizeOf4
  v4 := Tryd.zeroValue4
  t21 := Tryd.underlying21
  a21 := Tryd.isAgg21
  z21 := Tryd.sizeOf21
  v21 := Tryd.zeroValue21 }
/-- utf8.ValidRune: "ValidRune reports whether r can be legally encoded as UTF-8. Code points that are out of range or a surrogate half are illegal.": IT RETURNS 'Lib.validRune r'; the world is as it was. (LAID: no walk: one application.) -/
theorem Tryd.utf8_ValidRune (r : Int) (w : World) :
    Calls Tryd.prog 97 #[.int .i32 r] w fun e w' => e = .returned (.bool (Lib.validRune r)) ∧ w' = w := Any.utf8_ValidRune Tryd.lays119 r w
def Tryd.lays120_ren : Go.Shelf.Ren := ⟨fun | 120 => 93 | n => n, fun | 5 => 5 | 4 => 4 | n => n, fun | n => n⟩
theorem Tryd.lays120 : Go.Proofs.Lays.n120 Tryd.prog Tryd.lays120_ren := {
  mixed := by kernel_rfl
  f120 := Tryd.func93.trans (congrArg some (by kernel_rfl))
  t4 := Tryd.underlying4
  a4 := Tryd.isAgg4
  z4 := Tryd.sizeOf4
  v4 := Tryd.zeroValue4
  t5 := Tryd.underlying5
  a5 := Tryd.isAgg5
  z5 := Tryd.sizeOf5
  v5 := Tryd.zeroValue5 }
/-- utf8.RuneStart: "RuneStart reports whether the byte could be the first byte of an encoded, possibly invalid rune. Second and subsequent bytes always have the top two bits set to 10.": IT RETURNS 'Lib.runeStart b'; the world is as it was. ('h0', 'h1': b is a byte: a caller has it of every byte that it was handed.) (LAID: no walk: one application.) -/
theorem Tryd.utf8_RuneStart (b : Int) (w : World) (h0 : 0 ≤ b) (h1 : b < 256) :
    Calls Tryd.prog 93 #[.int .u8 b] w fun e w' => e = .returned (.bool (Lib.runeStart b)) ∧ w' = w := Any.utf8_RuneStart Tryd.lays120 b w h0 h1
def Tryd.lays137_ren : Go.Shelf.Ren := ⟨fun | 137 => 96 | 217 => 100 | 266 => 101 | n => n, fun | 9 => 9 | 5 => 5 | 3 => 3 | n => n, fun | n => n⟩
theorem Tryd.lays137 : Go.Proofs.Lays.n137 Tryd.prog Tryd.lays137_ren := {
  mixed := by kernel_rfl
  f137 := Tryd.func96.trans (congrArg some (by kernel_rfl))
  f217 := Tryd.func100.trans (congrArg some (by kernel_rfl))
  f266 := Tryd.func101.trans (congrArg some (by kernel_rfl))
  t3 := Tryd.underlying3
  a3 := Tryd.isAgg3
  z3 := Tryd.sizeOf3
  v3 := Tryd.zeroValue3
  t5 := Tryd.underlying5
  a5 := Tryd.isAgg5
  z5 := Tryd.sizeOf5
  v5 := Tryd.zeroValue5
  t9 := Tryd.underlying9
  a9 := Tryd.isAgg9
  z9 := Tryd.sizeOf9
  v9 := Tryd.zeroValue9 }
open Go.RowKit in
/-- strings.IndexByte: "IndexByte returns the index of the first instance of c in s, or -1 if c is not present in s.": IT RETURNS 'Lib.indexByte s c'; the world is as it was. (LAID: no walk: one application.) -/
theorem Tryd.strings_IndexByte (s : ByteArray) (c : Int) (w : World) :
    Calls Tryd.prog 96 #[.string s, .int .u8 c] w fun e w' => e = .returned (.int .i64 (Lib.indexByte s.data.toList c.toNat.toUInt8)) ∧ w' = w := Any.strings_IndexByte Tryd.lays137 s c w
def Tryd.lays217_ren : Go.Shelf.Ren := ⟨fun | 217 => 100 | 266 => 101 | n => n, fun | 9 => 9 | 5 => 5 | 3 => 3 | n => n, fun | n => n⟩
theorem Tryd.lays217 : Go.Proofs.Lays.n217 Tryd.prog Tryd.lays217_ren := {
  mixed := by kernel_rfl
  f217 := Tryd.func100.trans (congrArg some (by kernel_rfl))
  f266 := Tryd.func101.trans (congrArg some (by kernel_rfl))
  t3 := Tryd.underlying3
  a3 := Tryd.isAgg3
  z3 := Tryd.sizeOf3
  v3 := Tryd.zeroValue3
  t5 := Tryd.underlying5
  a5 := Tryd.isAgg5
  z5 := Tryd.sizeOf5
  v5 := Tryd.zeroValue5
  t9 := Tryd.underlying9
  a9 := Tryd.isAgg9
  z9 := Tryd.sizeOf9
  v9 := Tryd.zeroValue9 }
open Go.RowKit Go.Lib in
/-- internal/stringslite.IndexByte (what strings.IndexByte calls): IT RETURNS 'Lib.indexByte s c'; the world is as it was. (LAID: no walk: one application.) -/
theorem Tryd.stringslite_IndexByte (s : ByteArray) (c : Int) (w : World) :
    Calls Tryd.prog 100 #[.string s, .int .u8 c] w fun e w' => e = .returned (.int .i64 (Lib.indexByte s.data.toList c.toNat.toUInt8)) ∧ w' = w := Any.stringslite_IndexByte Tryd.lays217 s c w
def Tryd.lays224_ren : Go.Shelf.Ren := ⟨fun | 224 => 98 | n => n, fun | 3 => 3 | n => n, fun | n => n⟩
theorem Tryd.lays224 : Go.Proofs.Lays.n224 Tryd.prog Tryd.lays224_ren := {
  mixed := by kernel_rfl
  f224 := Tryd.func98.trans (congrArg some (by kernel_rfl))
  t3 := Tryd.underlying3
  a3 := Tryd.isAgg3
  z3 := Tryd.sizeOf3
  v3 := Tryd.zeroValue3 }
open Go.RowKit Go.Lib in
/-- internal/bytealg.Cutover: "Cutover reports the number of failures of IndexByte we should tolerate before switching over to Index. n is the number of bytes processed so far.": on amd64: (n + 16) / 8. (LAID: no walk: one application.) -/
theorem Tryd.bytealg_Cutover (n : Int) (h0 : 0 ≤ n) (h1 : n < 4611686018427387904) (w : World) :
    Calls Tryd.prog 98 #[.int .i64 n] w fun e w' => e = .returned (.int .i64 ((n + 16) / 8)) ∧ w' = w := Any.bytealg_Cutover Tryd.lays224 n h0 h1 w
def Tryd.lays206_ren : Go.Shelf.Ren := ⟨fun | 206 => 88 | n => n, fun | 9 => 9 | 4 => 4 | 3 => 3 | n => n, fun | n => n⟩
theorem Tryd.lays206 : Go.Proofs.Lays.n206 Tryd.prog Tryd.lays206_ren := {
  mixed := by kernel_rfl
  f206 := Tryd.func88.trans (congrArg some (by kernel_rfl))
  t3 := Tryd.underlying3
  a3 := Tryd.isAgg3
  z3 := Tryd.sizeOf3
  v3 := Tryd.zeroValue3
  t4 := Tryd.underlying4
  a4 := Tryd.isAgg4
  z4 := Tryd.sizeOf4
  v4 := Tryd.zeroValue4
  t9 := Tryd.underlying9
  a9 := Tryd.isAgg9
  z9 := Tryd.sizeOf9
  v9 := Tryd.zeroValue9 }
open Go.RowKit Go.Lib in
/-- internal/stringslite.HasPrefix (what strings.HasPrefix calls). (LAID: no walk: one application.) -/
theorem Tryd.stringslite_HasPrefix (s p : ByteArray) (w : World) :
    Calls Tryd.prog 88 #[.string s, .string p] w fun e w' => e = .returned (.bool (Lib.hasPrefix s.data.toList p.data.toList)) ∧ w' = w := Any.stringslite_HasPrefix Tryd.lays206 s p w
def Tryd.lays99_ren : Go.Shelf.Ren := ⟨fun | 99 => 77 | 206 => 88 | n => n, fun | 9 => 9 | 4 => 4 | 3 => 3 | n => n, fun | n => n⟩
theorem Tryd.lays99 : Go.Proofs.Lays.n99 Tryd.prog Tryd.lays99_ren := {
  mixed := by kernel_rfl
  f99 := Tryd.func77.trans (congrArg some (by kernel_rfl))
  f206 := Tryd.func88.trans (congrArg some (by kernel_rfl))
  t3 := Tryd.underlying3
  a3 := Tryd.isAgg3
  z3 := Tryd.sizeOf3
  v3 := Tryd.zeroValue3
  t4 := Tryd.underlying4
  a4 := Tryd.isAgg4
  z4 := Tryd.sizeOf4
  v4 := Tryd.zeroValue4
  t9 := Tryd.underlying9
  a9 := Tryd.isAgg9
  z9 := Tryd.sizeOf9
  v9 := Tryd.zeroValue9 }
open Go.RowKit Go.Lib in
/-- strings.HasPrefix: "HasPrefix reports whether the string s begins with prefix.": IT RETURNS 'Lib.hasPrefix s prefix'; the world is as it was. (LAID: no walk: one application.) -/
theorem Tryd.strings_HasPrefix (s p : ByteArray) (w : World) :
    Calls Tryd.prog 77 #[.string s, .string p] w fun e w' => e = .returned (.bool (Lib.hasPrefix s.data.toList p.data.toList)) ∧ w' = w := Any.strings_HasPrefix Tryd.lays99 s p w
def Tryd.lays197_ren : Go.Shelf.Ren := ⟨fun | 197 => 83 | 260 => 91 | n => n, fun | 9 => 9 | 21 => 21 | 3 => 3 | 4 => 4 | 5 => 5 | 105 => 91 | 119 => 103 | 0 => 0 | 46 => 46 | 139 => 106 | 138 => 105 | n => n, fun | 3 => 0 | 4 => 1 | n => n⟩
theorem Tryd.lays197 : Go.Proofs.Lays.n197 Tryd.prog Tryd.lays197_ren := {
  mixed := by kernel_rfl
  f197 := Tryd.func83.trans (congrArg some (by kernel_rfl))
  f260 := Tryd.func91.trans (congrArg some (by kernel_rfl))
  t0 := Tryd.underlying0
  a0 := Tryd.isAgg0
  z0 := Tryd.sizeOf0
  v0 := Tryd.zeroValue0
  t3 := Tryd.underlying3
  a3 := Tryd.isAgg3
  z3 := Tryd.sizeOf3
  v3 := Tryd.zeroValue3
  t4 := Tryd.underlying4
  a4 := Tryd.isAgg4
  z4 := Tryd.sizeOf4
  v4 := Tryd.zeroValue4
  t5 := Tryd.underlying5
  a5 := Tryd.isAgg5
  z5 := Tryd.sizeOf5
  v5 := Tryd.zeroValue5
  t9 := Tryd.underlying9
  a9 := Tryd.isAgg9
  z9 := Tryd.sizeOf9
  v9 := Tryd.zeroValue9
  t21 := Tryd.underlying21
  a21 := Tryd.isAgg21
  z21 := Tryd.sizeOf21
  v21 := Tryd.zeroValue21
  t46 := Tryd.underlying46
  a46 := Tryd.isAgg46
  z46 := Tryd.sizeOf46
  v46 := Tryd.zeroValue46
  t105 := Tryd.underlying91
  a105 := Tryd.isAgg91
  z105 := Tryd.sizeOf91
  v105 := Tryd.zeroValue91
  t119 := Tryd.underlying103
  a119 := Tryd.isAgg103
  z119 := Tryd.sizeOf103
  t138 := Tryd.underlying105
  a138 := Tryd.isAgg105
  z138 := Tryd.sizeOf105
  v138 := Tryd.zeroValue105
  t139 := Tryd.underlying106
  a139 := Tryd.isAgg106
  z139 := Tryd.sizeOf106
  v139 := Tryd.zeroValue106
  g3 := by kernel_rfl
  g4 := by kernel_rfl }
open Go.RowKit Go.Lib in
/-- unicode/utf8.DecodeRuneInString: "DecodeRuneInString is like DecodeRune but its input is a string.": ("DecodeRune unpacks the first UTF-8 encoding in p and returns the rune and its width in bytes."): WHERE s BEGINS WITH AN ASCII BYTE x: (x, 1). (LAID: no walk: one application.) -/
theorem Tryd.utf8_DecodeRuneInString_ascii (s : ByteArray) (x : UInt8) (w : World) (h0 : s.data.toList[0]? = some x) (hx : x.toNat < 128) :
    Calls Tryd.prog 83 #[.string s] w fun e w' => e = .returned (.tuple #[.int .i32 x.toNat, .int .i64 1]) ∧ w' = w := Any.utf8_DecodeRuneInString_ascii Tryd.lays197 s x w h0 hx
def Tryd.lays152_ren : Go.Shelf.Ren := ⟨fun | 152 => 92 | 137 => 96 | 119 => 97 | 224 => 98 | 225 => 99 | 217 => 100 | 266 => 101 | n => n, fun | 9 => 9 | 21 => 21 | 3 => 3 | 4 => 4 | 5 => 5 | 0 => 0 | 46 => 46 | n => n, fun | n => n⟩
theorem Tryd.lays152 : Go.Proofs.Lays.n152 Tryd.prog Tryd.lays152_ren := {
  mixed := by kernel_rfl
  f119 := Tryd.func97.trans (congrArg some (by kernel_rfl))
  f137 := Tryd.func96.trans (congrArg some (by kernel_rfl))
  f152 := Tryd.func92.trans (congrArg some (by kernel_rfl))
  f217 := Tryd.func100.trans (congrArg some (by kernel_rfl))
  f224 := Tryd.func98.trans (congrArg some (by kernel_rfl))
  f225 := Tryd.func99.trans (congrArg some (by kernel_rfl))
  f266 := Tryd.func101.trans (congrArg some (by kernel_rfl))
  t0 := Tryd.underlying0
  a0 := Tryd.isAgg0
  z0 := Tryd.sizeOf0
  v0 := Tryd.zeroValue0
  t3 := Tryd.underlying3
  a3 := Tryd.isAgg3
  z3 := Tryd.sizeOf3
  v3 := Tryd.zeroValue3
  t4 := Tryd.underlying4
  a4 := Tryd.isAgg4
  z4 := Tryd.sizeOf4
  v4 := Tryd.zeroValue4
  t5 := Tryd.underlying5
  a5 := Tryd.isAgg5
  z5 := Tryd.sizeOf5
  v5 := Tryd.zeroValue5
  t9 := Tryd.underlying9
  a9 := Tryd.isAgg9
  z9 := Tryd.sizeOf9
  v9 := Tryd.zeroValue9
  t21 := Tryd.underlying21
  a21 := Tryd.isAgg21
  z21 := Tryd.sizeOf21
  v21 := Tryd.zeroValue21
  t46 := Tryd.underlying46
  a46 := Tryd.isAgg46
  z46 := Tryd.sizeOf46
  v46 := Tryd.zeroValue46 }
open Go.RowKit Go.Lib in
theorem Tryd.strings_IndexRune_ascii (s : ByteArray) (r : Int) (w : World) (h0 : 0 ≤ r) (h1 : r < 128) :
    Calls Tryd.prog 92 #[.string s, .int .i32 r] w fun e w' => e = .returned (.int .i64 (Lib.indexByte s.data.toList r.toNat.toUInt8)) ∧ w' = w := Any.strings_IndexRune_ascii Tryd.lays152 s r w h0 h1
def Tryd.lays151_ren : Go.Shelf.Ren := ⟨fun | 151 => 84 | 152 => 92 | 137 => 96 | 119 => 97 | 224 => 98 | 225 => 99 | 217 => 100 | 266 => 101 | n => n, fun | 9 => 9 | 21 => 21 | 4 => 4 | 3 => 3 | 5 => 5 | 0 => 0 | 46 => 46 | n => n, fun | n => n⟩
theorem Tryd.lays151 : Go.Proofs.Lays.n151 Tryd.prog Tryd.lays151_ren := {
  mixed := by kernel_rfl
  f119 := Tryd.func97.trans (congrArg some (by kernel_rfl))
  f137 := Tryd.func96.trans (congrArg some (by kernel_rfl))
  f151 := Tryd.func84.trans (congrArg some (by kernel_rfl))
  f152 := Tryd.func92.trans (congrArg some (by kernel_rfl))
  f217 := Tryd.func100.trans (congrArg some (by kernel_rfl))
  f224 := Tryd.func98.trans (congrArg some (by kernel_rfl))
  f225 := Tryd.func99.trans (congrArg some (by kernel_rfl))
  f266 := Tryd.func101.trans (congrArg some (by kernel_rfl))
  t0 := Tryd.underlying0
  a0 := Tryd.isAgg0
  z0 := Tryd.sizeOf0
  v0 := Tryd.zeroValue0
  t3 := Tryd.underlying3
  a3 := Tryd.isAgg3
  z3 := Tryd.sizeOf3
  v3 := Tryd.zeroValue3
  t4 := Tryd.underlying4
  a4 := Tryd.isAgg4
  z4 := Tryd.sizeOf4
  v4 := Tryd.zeroValue4
  t5 := Tryd.underlying5
  a5 := Tryd.isAgg5
  z5 := Tryd.sizeOf5
  v5 := Tryd.zeroValue5
  t9 := Tryd.underlying9
  a9 := Tryd.isAgg9
  z9 := Tryd.sizeOf9
  v9 := Tryd.zeroValue9
  t21 := Tryd.underlying21
  a21 := Tryd.isAgg21
  z21 := Tryd.sizeOf21
  v21 := Tryd.zeroValue21
  t46 := Tryd.underlying46
  a46 := Tryd.isAgg46
  z46 := Tryd.sizeOf46
  v46 := Tryd.zeroValue46 }
open Go.RowKit Go.Lib in
theorem Tryd.strings_ContainsRune_ascii (s : ByteArray) (r : Int) (w : World) (h0 : 0 ≤ r) (h1 : r < 128) :
    Calls Tryd.prog 84 #[.string s, .int .i32 r] w fun e w' => e = .returned (.bool (decide (0 ≤ Lib.indexByte s.data.toList r.toNat.toUInt8))) ∧ w' = w := Any.strings_ContainsRune_ascii Tryd.lays151 s r w h0 h1
def Tryd.lays227_ren : Go.Shelf.Ren := ⟨fun | 227 => 71 | n => n, fun | 9 => 9 | 116 => 72 | 4 => 4 | 0 => 0 | 3 => 3 | 5 => 5 | n => n, fun | n => n⟩
theorem Tryd.lays227 : Go.Proofs.Lays.n227 Tryd.prog Tryd.lays227_ren := {
  mixed := by kernel_rfl
  f227 := Tryd.func71.trans (congrArg some (by kernel_rfl))
  t0 := Tryd.underlying0
  a0 := Tryd.isAgg0
  z0 := Tryd.sizeOf0
  v0 := Tryd.zeroValue0
  t3 := Tryd.underlying3
  a3 := Tryd.isAgg3
  z3 := Tryd.sizeOf3
  v3 := Tryd.zeroValue3
  t4 := Tryd.underlying4
  a4 := Tryd.isAgg4
  z4 := Tryd.sizeOf4
  v4 := Tryd.zeroValue4
  t5 := Tryd.underlying5
  a5 := Tryd.isAgg5
  z5 := Tryd.sizeOf5
  v5 := Tryd.zeroValue5
  t9 := Tryd.underlying9
  a9 := Tryd.isAgg9
  z9 := Tryd.sizeOf9
  v9 := Tryd.zeroValue9
  t116 := Tryd.underlying72
  a116 := Tryd.isAgg72
  z116 := Tryd.sizeOf72 }
open Go.RowKit Go.Lib in
theorem Tryd.strings_makeASCIISet (hv116 : ∀ w, (zeroValue 72).run Tryd.prog w = .ok (.agg (Array.replicate 256 (.bool false))) w) (chars : ByteArray) (w : World) (hs : chars.size < 4294967281) (hascii : ∀ (j : Nat) b, chars.data.toList[j]? = some b → b.toNat < 128) :
    Calls Tryd.prog 71 #[.string chars] w fun e w' => e = .returned (.tuple #[.agg (Lib.setCells chars.data.toList), .bool true]) ∧ w' = w.alloc (.cells (Lib.setCells chars.data.toList) 72) := Any.strings_makeASCIISet Tryd.lays227 hv116 (by kernel_rfl) chars w hs hascii
def Tryd.lays228_ren : Go.Shelf.Ren := ⟨fun | 228 => 82 | n => n, fun | 124 => 76 | 5 => 5 | 4 => 4 | 0 => 0 | 116 => 72 | n => n, fun | n => n⟩
theorem Tryd.lays228 : Go.Proofs.Lays.n228 Tryd.prog Tryd.lays228_ren := {
  mixed := by kernel_rfl
  f228 := Tryd.func82.trans (congrArg some (by kernel_rfl))
  t0 := Tryd.underlying0
  a0 := Tryd.isAgg0
  z0 := Tryd.sizeOf0
  v0 := Tryd.zeroValue0
  t4 := Tryd.underlying4
  a4 := Tryd.isAgg4
  z4 := Tryd.sizeOf4
  v4 := Tryd.zeroValue4
  t5 := Tryd.underlying5
  a5 := Tryd.isAgg5
  z5 := Tryd.sizeOf5
  v5 := Tryd.zeroValue5
  t116 := Tryd.underlying72
  a116 := Tryd.isAgg72
  z116 := Tryd.sizeOf72
  t124 := Tryd.underlying76
  a124 := Tryd.isAgg76
  z124 := Tryd.sizeOf76
  v124 := Tryd.zeroValue76 }
open Go.RowKit Go.Lib in
/-- '(as *asciiSet) contains(c)': 'as[c]': the set lies at block b, whole. (LAID: no walk: one application.) -/
theorem Tryd.asciiSet_contains (b : Nat) (x : UInt8) (v : Bool) (w : World) (hc : w.cell? ⟨b, x.toNat, none⟩ = some (.bool v)) :
    Calls Tryd.prog 82 #[.pointer (some ⟨b, 0, none⟩), .int .u8 x.toNat] w fun e w' => e = .returned (.bool v) ∧ w' = w := Any.asciiSet_contains Tryd.lays228 b x v w hc
def Tryd.lays264_ren : Go.Shelf.Ren := ⟨fun | 264 => 87 | n => n, fun | 53 => 56 | 46 => 46 | n => n, fun | n => n⟩
theorem Tryd.lays264 : Go.Proofs.Lays.n264 Tryd.prog Tryd.lays264_ren := {
  mixed := by kernel_rfl
  f264 := Tryd.func87.trans (congrArg some (by kernel_rfl))
  t46 := Tryd.underlying46
  a46 := Tryd.isAgg46
  z46 := Tryd.sizeOf46
  v46 := Tryd.zeroValue46
  t53 := Tryd.underlying56
  a53 := Tryd.isAgg56
  z53 := Tryd.sizeOf56
  v53 := Tryd.zeroValue56 }
open Go.RowKit Go.Lib in
theorem Tryd.bits_Mul64 (x y : Nat) (hx : x < 18446744073709551616) (hy : y < 18446744073709551616) (w : World) :
    Calls Tryd.prog 87 #[.int .u64 x, .int .u64 y] w fun e w' => e = .returned (.tuple #[.int .u64 ((x * y / 18446744073709551616 : Nat) : Int), .int .u64 ((x * y % 18446744073709551616 : Nat) : Int)]) ∧ w' = w := Any.bits_Mul64 Tryd.lays264 x y hx hy w
def Tryd.lays212_ren : Go.Shelf.Ren := ⟨fun | 212 => 76 | 263 => 86 | 264 => 87 | n => n, fun | 46 => 46 | 51 => 63 | 146 => 94 | 53 => 56 | 148 => 96 | n => n, fun | n => n⟩
theorem Tryd.lays212 : Go.Proofs.Lays.n212 Tryd.prog Tryd.lays212_ren := {
  mixed := by kernel_rfl
  f212 := Tryd.func76.trans (congrArg some (by kernel_rfl))
  f263 := Tryd.func86.trans (congrArg some (by kernel_rfl))
  f264 := Tryd.func87.trans (congrArg some (by kernel_rfl))
  t46 := Tryd.underlying46
  a46 := Tryd.isAgg46
  z46 := Tryd.sizeOf46
  v46 := Tryd.zeroValue46
  t51 := Tryd.underlying63
  a51 := Tryd.isAgg63
  z51 := Tryd.sizeOf63
  v51 := Tryd.zeroValue63
  t53 := Tryd.underlying56
  a53 := Tryd.isAgg56
  z53 := Tryd.sizeOf56
  v53 := Tryd.zeroValue56
  t146 := Tryd.underlying94
  a146 := Tryd.isAgg94
  z146 := Tryd.sizeOf94
  v146 := Tryd.zeroValue94
  t148 := Tryd.underlying96
  a148 := Tryd.isAgg96
  z148 := Tryd.sizeOf96
  v148 := Tryd.zeroValue96 }
open Go.RowKit Go.Lib in
/-- math/bits.Mul: "Mul returns the full-width product of x and y": on a machine of 64 bits: Mul64's. (LAID: no walk: one application.) -/
theorem Tryd.bits_Mul (x y : Nat) (hx : x < 18446744073709551616) (hy : y < 18446744073709551616) (w : World) :
    Calls Tryd.prog 76 #[.int .u64 x, .int .u64 y] w fun e w' => e = .returned (.tuple #[.int .u64 ((x * y / 18446744073709551616 : Nat) : Int), .int .u64 ((x * y % 18446744073709551616 : Nat) : Int)]) ∧ w' = w := Any.bits_Mul Tryd.lays212 x y hx hy w
def Tryd.lays105_ren : Go.Shelf.Ren := ⟨fun | 105 => 68 | 212 => 76 | 99 => 77 | 165 => 78 | 166 => 79 | 170 => 80 | 169 => 81 | 263 => 86 | 264 => 87 | 206 => 88 | 240 => 89 | 241 => 90 | 276 => 94 | 277 => 95 | n => n, fun | 9 => 9 | 3 => 3 | 4 => 4 | 20 => 20 | 0 => 0 | 46 => 46 | 109 => 77 | 5 => 5 | 72 => 82 | 76 => 86 | 51 => 63 | 146 => 94 | 53 => 56 | 148 => 96 | 70 => 80 | 37 => 58 | 75 => 85 | 127 => 98 | 164 => 100 | 80 => 89 | n => n, fun | n => n⟩
theorem Tryd.lays105 : Go.Proofs.Lays.n105 Tryd.prog Tryd.lays105_ren := {
  mixed := by kernel_rfl
  f99 := Tryd.func77.trans (congrArg some (by kernel_rfl))
  f105 := Tryd.func68.trans (congrArg some (by kernel_rfl))
  f165 := Tryd.func78.trans (congrArg some (by kernel_rfl))
  f166 := Tryd.func79.trans (congrArg some (by kernel_rfl))
  f169 := Tryd.func81.trans (congrArg some (by kernel_rfl))
  f170 := Tryd.func80.trans (congrArg some (by kernel_rfl))
  f206 := Tryd.func88.trans (congrArg some (by kernel_rfl))
  f212 := Tryd.func76.trans (congrArg some (by kernel_rfl))
  f240 := Tryd.func89.trans (congrArg some (by kernel_rfl))
  f241 := Tryd.func90.trans (congrArg some (by kernel_rfl))
  f263 := Tryd.func86.trans (congrArg some (by kernel_rfl))
  f264 := Tryd.func87.trans (congrArg some (by kernel_rfl))
  f276 := Tryd.func94.trans (congrArg some (by kernel_rfl))
  f277 := Tryd.func95.trans (congrArg some (by kernel_rfl))
  t0 := Tryd.underlying0
  a0 := Tryd.isAgg0
  z0 := Tryd.sizeOf0
  v0 := Tryd.zeroValue0
  t3 := Tryd.underlying3
  a3 := Tryd.isAgg3
  z3 := Tryd.sizeOf3
  v3 := Tryd.zeroValue3
  t4 := Tryd.underlying4
  a4 := Tryd.isAgg4
  z4 := Tryd.sizeOf4
  v4 := Tryd.zeroValue4
  t5 := Tryd.underlying5
  a5 := Tryd.isAgg5
  z5 := Tryd.sizeOf5
  v5 := Tryd.zeroValue5
  t9 := Tryd.underlying9
  a9 := Tryd.isAgg9
  z9 := Tryd.sizeOf9
  v9 := Tryd.zeroValue9
  t20 := Tryd.underlying20
  a20 := Tryd.isAgg20
  z20 := Tryd.sizeOf20
  v20 := Tryd.zeroValue20
  t37 := Tryd.underlying58
  a37 := Tryd.isAgg58
  z37 := Tryd.sizeOf58
  v37 := Tryd.zeroValue58
  t46 := Tryd.underlying46
  a46 := Tryd.isAgg46
  z46 := Tryd.sizeOf46
  v46 := Tryd.zeroValue46
  t51 := Tryd.underlying63
  a51 := Tryd.isAgg63
  z51 := Tryd.sizeOf63
  v51 := Tryd.zeroValue63
  t53 := Tryd.underlying56
  a53 := Tryd.isAgg56
  z53 := Tryd.sizeOf56
  v53 := Tryd.zeroValue56
  t70 := Tryd.underlying80
  a70 := Tryd.isAgg80
  z70 := Tryd.sizeOf80
  v70 := Tryd.zeroValue80
  t72 := Tryd.underlying82
  a72 := Tryd.isAgg82
  z72 := Tryd.sizeOf82
  v72 := Tryd.zeroValue82
  t75 := Tryd.underlying85
  a75 := Tryd.isAgg85
  z75 := Tryd.sizeOf85
  v75 := Tryd.zeroValue85
  t76 := Tryd.underlying86
  a76 := Tryd.isAgg86
  z76 := Tryd.sizeOf86
  v76 := Tryd.zeroValue86
  t109 := Tryd.underlying77
  a109 := Tryd.isAgg77
  z109 := Tryd.sizeOf77
  v109 := Tryd.zeroValue77
  t127 := Tryd.underlying98
  a127 := Tryd.isAgg98
  z127 := Tryd.sizeOf98
  v127 := Tryd.zeroValue98
  t146 := Tryd.underlying94
  a146 := Tryd.isAgg94
  z146 := Tryd.sizeOf94
  v146 := Tryd.zeroValue94
  t148 := Tryd.underlying96
  a148 := Tryd.isAgg96
  z148 := Tryd.sizeOf96
  v148 := Tryd.zeroValue96
  t164 := Tryd.underlying100
  a164 := Tryd.isAgg100
  z164 := Tryd.sizeOf100
  v164 := Tryd.zeroValue100 }
theorem Tryd.Builder_Extra_105 : Builder.Extra Tryd.prog Tryd.lays105_ren := {
  sizeBuilder := by kernel_rfl
  liesBuilder := by kernel_rfl
  t5 := Tryd.underlying5
  a5 := Tryd.isAgg5
  z5 := Tryd.sizeOf5
  v5 := Tryd.zeroValue5
  infoByte := by kernel_rfl
  cellsByte := by kernel_rfl
  sizeByte := by kernel_rfl
  neB5 := by decide }
open Go.RowKit Go.Lib in
/-- THE MAIN CASE: at least two copies of a string that is not empty. (LAID: no walk: one application.) -/
theorem Tryd.strings_Repeat_main (s : ByteArray) (c : Nat) (w : World) (hc2 : 2 ≤ c) (hc : c ≤ 9223372036854775807) (hlen : s.size * c ≤ 140737488355328) (h0 : 0 < s.size) :
    Calls Tryd.prog 68 #[.string s, .int .i64 c] w fun e w' => e = .returned (.string ⟨(Lib.repeatL s.data.toList c).toArray⟩) ∧ Below w.heap.size w w' := Any.strings_Repeat_main Tryd.lays105 Tryd.Builder_Extra_105 s c w hc2 hc hlen h0
open Go.RowKit Go.Lib in
theorem Tryd.strings_Repeat_zero (s : ByteArray) (w : World) :
    Calls Tryd.prog 68 #[.string s, .int .i64 0] w fun e w' => e = .returned (.string ⟨#[]⟩) ∧ w' = w := Any.strings_Repeat_zero Tryd.lays105 s w
open Go.RowKit Go.Lib in
theorem Tryd.strings_Repeat_one (s : ByteArray) (w : World) :
    Calls Tryd.prog 68 #[.string s, .int .i64 1] w fun e w' => e = .returned (.string s) ∧ w' = w := Any.strings_Repeat_one Tryd.lays105 s w
open Go.RowKit Go.Lib in
/-- Copies of the empty string. (LAID: no walk: one application.) -/
theorem Tryd.strings_Repeat_empty (s : ByteArray) (c : Nat) (w : World) (hc2 : 2 ≤ c) (hc : c ≤ 9223372036854775807) (h0 : s.size = 0) :
    Calls Tryd.prog 68 #[.string s, .int .i64 c] w fun e w' => e = .returned (.string ⟨#[]⟩) ∧ w' = w := Any.strings_Repeat_empty Tryd.lays105 s c w hc2 hc h0
open Go.RowKit Go.Lib in
/-- count < 0: "It panics if count is negative". (LAID: no walk: one application.) -/
theorem Tryd.strings_Repeat_negative (s : ByteArray) (c : Int) (w : World) (hc : c < 0) :
    Calls Tryd.prog 68 #[.string s, .int .i64 c] w fun e w' => e = .panicked [{ v := repeatPanic Tryd.lays105_ren "strings: negative Repeat count", recovered := false }] ∧ w' = w := Any.strings_Repeat_negative Tryd.lays105 s c w hc
open Go.RowKit Go.Lib in
/-- len(s) * count is no int: ".. or if the result of (len(s) * count) overflows". (LAID: no walk: one application.) -/
theorem Tryd.strings_Repeat_overflow (s : ByteArray) (c : Nat) (w : World) (hc : c ≤ 9223372036854775807) (hs : s.size ≤ 9223372036854775807) (hbig : 9223372036854775807 < s.size * c) :
    Calls Tryd.prog 68 #[.string s, .int .i64 c] w fun e w' => e = .panicked [{ v := repeatPanic Tryd.lays105_ren "strings: Repeat output length overflow", recovered := false }] ∧ w' = w := Any.strings_Repeat_overflow Tryd.lays105 s c w hc hs hbig
open Go.RowKit Go.Lib in
/-- **strings.Repeat: count ≥ 0, the result within one allocation: count copies of s.** (LAID: no walk: one application.) -/
theorem Tryd.strings_Repeat (s : ByteArray) (c : Nat) (w : World) (hc : c ≤ 9223372036854775807) (hlen : s.size * c ≤ 140737488355328) :
    Calls Tryd.prog 68 #[.string s, .int .i64 c] w fun e w' => e = .returned (.string ⟨(Lib.repeatL s.data.toList c).toArray⟩) ∧ Below w.heap.size w w' := Any.strings_Repeat Tryd.lays105 Tryd.Builder_Extra_105 s c w hc hlen
def Tryd.lays260_ren : Go.Shelf.Ren := ⟨fun | 260 => 91 | n => n, fun | 9 => 9 | 21 => 21 | 3 => 3 | 4 => 4 | 5 => 5 | 119 => 103 | 0 => 0 | 46 => 46 | 139 => 106 | 138 => 105 | n => n, fun | 3 => 0 | 4 => 1 | n => n⟩
theorem Tryd.lays260 : Go.Proofs.Lays.n260 Tryd.prog Tryd.lays260_ren := {
  mixed := by kernel_rfl
  f260 := Tryd.func91.trans (congrArg some (by kernel_rfl))
  t0 := Tryd.underlying0
  a0 := Tryd.isAgg0
  z0 := Tryd.sizeOf0
  v0 := Tryd.zeroValue0
  t3 := Tryd.underlying3
  a3 := Tryd.isAgg3
  z3 := Tryd.sizeOf3
  v3 := Tryd.zeroValue3
  t4 := Tryd.underlying4
  a4 := Tryd.isAgg4
  z4 := Tryd.sizeOf4
  v4 := Tryd.zeroValue4
  t5 := Tryd.underlying5
  a5 := Tryd.isAgg5
  z5 := Tryd.sizeOf5
  v5 := Tryd.zeroValue5
  t9 := Tryd.underlying9
  a9 := Tryd.isAgg9
  z9 := Tryd.sizeOf9
  v9 := Tryd.zeroValue9
  t21 := Tryd.underlying21
  a21 := Tryd.isAgg21
  z21 := Tryd.sizeOf21
  v21 := Tryd.zeroValue21
  t46 := Tryd.underlying46
  a46 := Tryd.isAgg46
  z46 := Tryd.sizeOf46
  v46 := Tryd.zeroValue46
  t119 := Tryd.underlying103
  a119 := Tryd.isAgg103
  z119 := Tryd.sizeOf103
  t138 := Tryd.underlying105
  a138 := Tryd.isAgg105
  z138 := Tryd.sizeOf105
  v138 := Tryd.zeroValue105
  t139 := Tryd.underlying106
  a139 := Tryd.isAgg106
  z139 := Tryd.sizeOf106
  v139 := Tryd.zeroValue106
  g3 := by kernel_rfl
  g4 := by kernel_rfl }
open Go.RowKit Go.Lib in
theorem Tryd.utf8_decodeRuneInStringSlow (s : ByteArray) (w : World) (hT : Lib.Utf8Tabs 0 1 w) :
    Calls Tryd.prog 91 #[.string s] w fun e w' => e = .returned (.tuple #[.int .i32 (Lib.decodeGo s).1, .int .i64 (Lib.decodeGo s).2]) ∧ Below w.heap.size w w' := Any.utf8_decodeRuneInStringSlow Tryd.lays260 s w hT
open Go.RowKit Go.Lib in
/-- **unicode/utf8.DecodeRuneInString AT EVERY STRING.** (LAID: no walk: one application.) -/
theorem Tryd.utf8_DecodeRuneInString (s : ByteArray) (w : World) (hT : Lib.Utf8Tabs 0 1 w) :
    Calls Tryd.prog 83 #[.string s] w fun e w' => e = .returned (.tuple #[.int .i32 (Lib.decodeGo s).1, .int .i64 (Lib.decodeGo s).2]) ∧ Below w.heap.size w w' := Any.utf8_DecodeRuneInString Tryd.lays197 s w hT
def Tryd.lays271_ren : Go.Shelf.Ren := ⟨fun | 271 => 85 | 120 => 93 | 197 => 83 | 260 => 91 | n => n, fun | 9 => 9 | 21 => 21 | 3 => 3 | 4 => 4 | 5 => 5 | 105 => 91 | 119 => 103 | 0 => 0 | 46 => 46 | 139 => 106 | 138 => 105 | n => n, fun | 3 => 0 | 4 => 1 | n => n⟩
theorem Tryd.lays271 : Go.Proofs.Lays.n271 Tryd.prog Tryd.lays271_ren := {
  mixed := by kernel_rfl
  f120 := Tryd.func93.trans (congrArg some (by kernel_rfl))
  f197 := Tryd.func83.trans (congrArg some (by kernel_rfl))
  f260 := Tryd.func91.trans (congrArg some (by kernel_rfl))
  f271 := Tryd.func85.trans (congrArg some (by kernel_rfl))
  t0 := Tryd.underlying0
  a0 := Tryd.isAgg0
  z0 := Tryd.sizeOf0
  v0 := Tryd.zeroValue0
  t3 := Tryd.underlying3
  a3 := Tryd.isAgg3
  z3 := Tryd.sizeOf3
  v3 := Tryd.zeroValue3
  t4 := Tryd.underlying4
  a4 := Tryd.isAgg4
  z4 := Tryd.sizeOf4
  v4 := Tryd.zeroValue4
  t5 := Tryd.underlying5
  a5 := Tryd.isAgg5
  z5 := Tryd.sizeOf5
  v5 := Tryd.zeroValue5
  t9 := Tryd.underlying9
  a9 := Tryd.isAgg9
  z9 := Tryd.sizeOf9
  v9 := Tryd.zeroValue9
  t21 := Tryd.underlying21
  a21 := Tryd.isAgg21
  z21 := Tryd.sizeOf21
  v21 := Tryd.zeroValue21
  t46 := Tryd.underlying46
  a46 := Tryd.isAgg46
  z46 := Tryd.sizeOf46
  v46 := Tryd.zeroValue46
  t105 := Tryd.underlying91
  a105 := Tryd.isAgg91
  z105 := Tryd.sizeOf91
  v105 := Tryd.zeroValue91
  t119 := Tryd.underlying103
  a119 := Tryd.isAgg103
  z119 := Tryd.sizeOf103
  t138 := Tryd.underlying105
  a138 := Tryd.isAgg105
  z138 := Tryd.sizeOf105
  v138 := Tryd.zeroValue105
  t139 := Tryd.underlying106
  a139 := Tryd.isAgg106
  z139 := Tryd.sizeOf106
  v139 := Tryd.zeroValue106
  g3 := by kernel_rfl
  g4 := by kernel_rfl }
open Go.RowKit Go.Lib in
/-- **unicode/utf8.DecodeLastRuneInString AT EVERY STRING.** (LAID: no walk: one application.) -/
theorem Tryd.utf8_DecodeLastRuneInString (s : ByteArray) (w : World) (hs : s.size ≤ 9223372036854775807) (hT : Lib.Utf8Tabs 0 1 w) :
    Calls Tryd.prog 85 #[.string s] w fun e w' => e = .returned (.tuple #[.int .i32 (Lib.decodeLastL s.data.toList).1, .int .i64 (Lib.decodeLastL s.data.toList).2]) ∧ Below w.heap.size w w' := Any.utf8_DecodeLastRuneInString Tryd.lays271 s w hs hT
end Go.Proofs
